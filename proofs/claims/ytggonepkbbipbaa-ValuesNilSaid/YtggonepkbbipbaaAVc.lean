/- The resolved code of some functions, as it is run on values. -/
import Derived.Test.YtggonepkbbipbaaProg
import Derived.Test.YtggonepkbbipbaaAL24
import Derived.KernelRfl
set_option linter.unusedVariables false
namespace Go.Proofs.Ytggonepkbbipbaa
open Go.AL
/-- changeling/changelinglaw20.ValuesNil -/
def v3 : ACode :=
(.seq
 (.reg [⟨(some 4), .move (.c (.bool false)), none⟩])
 (.seq
  (.reg [⟨(some 16), .move (.t 0), none⟩,
    ⟨(some 17), .move (.t 1), none⟩,
    ⟨(some 18), .call 9 [(.c .nilp), (.t 16), (.t 17)], none⟩,
    ⟨(some 15), .move (.t 18), none⟩,
    ⟨(some 19), .extract (.t 15) 0, none⟩,
    ⟨(some 20), .extract (.t 15) 1, none⟩,
    ⟨(some 5), .move (.t 19), none⟩,
    ⟨(some 6), .move (.t 20), none⟩])
  (.seq
   (.reg [⟨(some 22), .move (.t 0), none⟩,
     ⟨(some 23), .move (.t 1), none⟩,
     ⟨(some 24), .call 10 [(.c .nilp), (.t 22), (.t 23)], none⟩,
     ⟨(some 21), .move (.t 24), none⟩,
     ⟨(some 25), .extract (.t 21) 0, none⟩,
     ⟨(some 26), .extract (.t 21) 1, none⟩,
     ⟨(some 7), .move (.t 25), none⟩,
     ⟨(some 8), .move (.t 26), none⟩])
   (.seq
    (.reg [⟨(some 28), .call 12 [(.c (.str ⟨#[73, 110, 116]⟩))], none⟩,
      ⟨(some 29), .move (.t 1), none⟩,
      ⟨(some 30), .call 11 [(.c .nilp), (.t 28), (.t 29)], none⟩,
      ⟨(some 27), .move (.t 30), none⟩,
      ⟨(some 31), .extract (.t 27) 0, none⟩,
      ⟨(some 32), .extract (.t 27) 1, none⟩,
      ⟨(some 9), .move (.t 31), none⟩,
      ⟨(some 10), .move (.t 32), none⟩])
    (.seq
     (.reg [⟨(some 34), .call 13 [(.c .nils)], none⟩,
       ⟨(some 33), .move (.t 34), none⟩,
       ⟨(some 35), .extract (.t 33) 0, none⟩,
       ⟨(some 36), .extract (.t 33) 1, none⟩,
       ⟨(some 12), .new 39 (.c (.agg [(.int .i64 0), (.int .i64 0), (.int .i64 0)])), none⟩,
       ⟨(some 11), .move (.t 35), none⟩,
       ⟨none, .store 3 (.t 12) (.t 36), none⟩])
     (.seq
      (.seq
       (.reg [⟨(some 37), .move (.t 5), none⟩,
         ⟨(some 38), .len .slice (.t 37), none⟩,
         ⟨(some 39), .bin .int .neq (.t 38) (.c (.int .i64 0)), none⟩,
         ⟨(some 40), .move (.t 39), none⟩,
         ⟨(some 41), .move (.t 7), some (40, false)⟩,
         ⟨(some 42), .bin .int .neq (.t 41) (.c (.int .i64 0)), some (40, false)⟩,
         ⟨(some 43), .pick (.t 40) (.c (.bool true)) (.t 42), none⟩,
         ⟨(some 44), .move (.t 43), none⟩,
         ⟨(some 45), .move (.t 9), some (44, false)⟩,
         ⟨(some 46), .len .slice (.t 45), some (44, false)⟩,
         ⟨(some 47), .bin .int .neq (.t 46) (.c (.int .i64 0)), some (44, false)⟩,
         ⟨(some 48), .pick (.t 44) (.c (.bool true)) (.t 47), none⟩,
         ⟨(some 49), .move (.t 48), none⟩,
         ⟨(some 50), .move (.t 6), some (49, false)⟩,
         ⟨(some 51), .bin .int .neq (.t 50) (.c (.int .i64 3)), some (49, false)⟩,
         ⟨(some 52), .pick (.t 49) (.c (.bool true)) (.t 51), none⟩,
         ⟨(some 53), .move (.t 52), none⟩,
         ⟨(some 54), .move (.t 8), some (53, false)⟩,
         ⟨(some 55), .bin .int .neq (.t 54) (.c (.int .i64 3)), some (53, false)⟩,
         ⟨(some 56), .pick (.t 53) (.c (.bool true)) (.t 55), none⟩,
         ⟨(some 57), .move (.t 56), none⟩,
         ⟨(some 58), .move (.t 10), some (57, false)⟩,
         ⟨(some 59), .bin .int .neq (.t 58) (.c (.int .i64 3)), some (57, false)⟩,
         ⟨(some 60), .pick (.t 57) (.c (.bool true)) (.t 59), none⟩,
         ⟨(some 61), .move (.t 60), none⟩,
         ⟨(some 62), .move (.t 11), some (61, false)⟩,
         ⟨(some 63), .nileq .ptr false (.t 62) (.c .nilp), some (61, false)⟩,
         ⟨(some 64), .pick (.t 61) (.c (.bool true)) (.t 63), none⟩])
       (.cond (.t 64)
        (.seq
         (.reg [⟨(some 4), .move (.c (.bool false)), none⟩])
         .ret)
        .skip))
      (.seq
       (.reg [⟨(some 66), .move (.t 11), none⟩,
         ⟨(some 67), .call 12 [(.c (.str ⟨#[66, 111, 111, 108]⟩))], none⟩,
         ⟨(some 68), .call 12 [(.c (.str ⟨#[66, 111, 111, 108]⟩))], none⟩,
         ⟨(some 69), .lit true 33 4 [(.t 67), (.t 68)], none⟩,
         ⟨(some 70), .call 9 [(.t 66), (.t 69), (.c (.int .i64 2))], none⟩,
         ⟨(some 65), .move (.t 70), none⟩,
         ⟨(some 71), .extract (.t 65) 0, none⟩,
         ⟨(some 72), .extract (.t 65) 1, none⟩,
         ⟨(some 13), .move (.t 71), none⟩,
         ⟨(some 14), .move (.t 72), none⟩])
       (.seq
        (.seq
         (.reg [⟨(some 73), .move (.t 14), none⟩,
           ⟨(some 74), .bin .int .neq (.t 73) (.c (.int .i64 0)), none⟩,
           ⟨(some 75), .move (.t 74), none⟩,
           ⟨(some 76), .move (.t 13), some (75, false)⟩,
           ⟨(some 77), .len .slice (.t 76), some (75, false)⟩,
           ⟨(some 78), .bin .int .neq (.t 77) (.c (.int .i64 4)), some (75, false)⟩,
           ⟨(some 79), .pick (.t 75) (.c (.bool true)) (.t 78), none⟩])
         (.cond (.t 79)
          (.seq
           (.reg [⟨(some 4), .move (.c (.bool false)), none⟩])
           .ret)
          .skip))
        (.seq
         (.reg [⟨(some 80), .move (.t 13), none⟩,
           ⟨(some 81), .iaddr 1 (.t 80) (.c (.int .i64 0)), none⟩,
           ⟨(some 82), .load none (.t 81), none⟩,
           ⟨(some 83), .build [(.str ⟨#[]⟩), (.int .i64 0), .nils] [(1, 1, (.c (.int .i64 9)))], none⟩,
           ⟨(some 84), .iaddr 3 (.t 82) (.c (.int .i64 0)), none⟩,
           ⟨none, .store 3 (.t 84) (.t 83), none⟩])
         (.seq
          (.reg [⟨(some 85), .move (.t 13), none⟩,
            ⟨(some 86), .iaddr 1 (.t 85) (.c (.int .i64 1)), none⟩,
            ⟨(some 87), .load none (.t 86), none⟩,
            ⟨(some 88), .build [(.str ⟨#[]⟩), (.int .i64 0), .nils] [(0, 1, (.c (.str ⟨#[70, 97, 108, 115, 101]⟩)))], none⟩,
            ⟨(some 89), .build [(.str ⟨#[]⟩), (.int .i64 0), .nils] [(0, 1, (.c (.str ⟨#[84, 114, 117, 101]⟩)))], none⟩,
            ⟨(some 90), .lit true 43 3 [(.t 88), (.t 89)], none⟩,
            ⟨(some 91), .call 14 [(.t 87), (.t 90)], none⟩,
            ⟨(some 92), .move (.t 91), none⟩,
            ⟨(some 93), .move (.t 13), some (92, true)⟩,
            ⟨(some 94), .iaddr 1 (.t 93) (.c (.int .i64 0)), some (92, true)⟩,
            ⟨(some 95), .load none (.t 94), some (92, true)⟩,
            ⟨(some 96), .cut .slice 3 (.t 95) (some (.c (.int .i64 1))) none, some (92, true)⟩,
            ⟨(some 97), .build [(.str ⟨#[]⟩), (.int .i64 0), .nils] [(0, 1, (.c (.str ⟨#[70, 97, 108, 115, 101]⟩)))], some (92, true)⟩,
            ⟨(some 98), .lit true 43 3 [(.t 97)], some (92, true)⟩,
            ⟨(some 99), .call 14 [(.t 96), (.t 98)], some (92, true)⟩,
            ⟨(some 100), .pick (.t 92) (.t 99) (.c (.bool false)), none⟩,
            ⟨(some 101), .move (.t 100), none⟩,
            ⟨(some 102), .call 15 [], some (101, true)⟩,
            ⟨(some 103), .pick (.t 101) (.t 102) (.c (.bool false)), none⟩,
            ⟨(some 4), .move (.t 103), none⟩])
          .ret))))))))))
theorem ent3 : EntOK Try.prog 3 ⟨104, v3, [.slot 4]⟩ := fun args σ K ha h =>
  enter (own := List.range 104) Try.func3 (by kernel_rfl) (by kernel_rfl) (by kernel_rfl) ha h
/-- changeling/values.All -/
def v9 : ACode :=
(.seq
 (.reg [⟨(some 6), .move (.c .nils), none⟩,
   ⟨(some 7), .move (.c (.int .i64 0)), none⟩])
 (.seq
  (.seq
   (.reg [⟨(some 17), .move (.t 0), none⟩,
     ⟨(some 18), .move (.t 1), none⟩,
     ⟨(some 19), .move (.t 2), none⟩,
     ⟨(some 20), .call 35 [(.t 17), (.t 18), (.t 19)], none⟩,
     ⟨(some 8), .move (.t 20), none⟩])
   (.seq
    (.reg [⟨(some 21), .move (.t 8), none⟩,
      ⟨(some 22), .bin .int .neq (.t 21) (.c (.int .i64 0)), none⟩])
    (.cond (.t 22)
     (.seq
      (.reg [⟨(some 23), .move (.t 8), none⟩,
        ⟨(some 6), .move (.c .nils), none⟩,
        ⟨(some 7), .move (.t 23), none⟩])
      .ret)
     .skip)))
  (.seq
   (.reg [⟨(some 24), .move (.t 0), none⟩,
     ⟨(some 25), .call 36 [(.t 24)], none⟩,
     ⟨(some 9), .move (.t 25), none⟩])
   (.seq
    (.reg [⟨(some 10), .move (.c (.int .i64 0)), none⟩])
    (.seq
     (.seq
      (.reg [⟨(some 26), .move (.t 9), none⟩,
        ⟨(some 27), .move (.t 1), none⟩,
        ⟨(some 28), .move (.t 2), none⟩,
        ⟨(some 29), .call 37 [(.t 26), (.t 27), (.t 28)], none⟩,
        ⟨(some 30), .len .slice (.t 29), none⟩,
        ⟨(some 31), .move (.c (.int .i64 0)), none⟩])
      (.block 0
       (.loop
        (.seq
         (.reg [⟨(some 32), .bin .int .lss (.t 31) (.t 30), none⟩])
         (.seq
          (.cond (.t 32)
           .skip
           (.exit 0))
          (.seq
           (.block 1
            (.seq
             (.reg [⟨(some 33), .iaddr 1 (.t 29) (.t 31), none⟩,
               ⟨(some 34), .load none (.t 33), none⟩,
               ⟨(some 12), .move (.t 34), none⟩])
             (.reg [⟨(some 35), .move (.t 10), none⟩,
               ⟨(some 36), .move (.t 12), none⟩,
               ⟨(some 37), .bin .int .add (.t 35) (.t 36), none⟩,
               ⟨(some 38), .min2 (.c (.int .i64 4097)) (.t 37), none⟩,
               ⟨(some 10), .move (.t 38), none⟩])))
           (.reg [⟨(some 39), .bin .int .add (.t 31) (.c (.int .i64 1)), none⟩,
             ⟨(some 31), .move (.t 39), none⟩])))))))
     (.seq
      (.seq
       (.reg [⟨(some 40), .move (.t 10), none⟩,
         ⟨(some 41), .bin .int .gtr (.t 40) (.c (.int .i64 4096)), none⟩])
       (.cond (.t 41)
        (.seq
         (.reg [⟨(some 6), .move (.c .nils), none⟩,
           ⟨(some 7), .move (.c (.int .i64 2)), none⟩])
         .ret)
        .skip))
      (.seq
       (.reg [⟨(some 13), .move (.c .nils), none⟩])
       (.seq
        (.seq
         (.reg [⟨(some 14), .move (.c (.int .i64 0)), none⟩])
         (.block 2
          (.loop
           (.seq
            (.seq
             (.reg [⟨(some 42), .move (.t 14), none⟩,
               ⟨(some 43), .move (.t 2), none⟩,
               ⟨(some 44), .bin .int .leq (.t 42) (.t 43), none⟩])
             (.cond (.t 44)
              .skip
              (.exit 2)))
            (.seq
             (.block 3
              (.seq
               (.reg [⟨(some 47), .move (.t 9), none⟩,
                 ⟨(some 48), .move (.t 1), none⟩,
                 ⟨(some 49), .move (.t 14), none⟩,
                 ⟨(some 50), .call 38 [(.t 47), (.t 48), (.t 49)], none⟩,
                 ⟨(some 51), .len .slice (.t 50), none⟩,
                 ⟨(some 52), .move (.c (.int .i64 0)), none⟩])
               (.block 4
                (.loop
                 (.seq
                  (.reg [⟨(some 53), .bin .int .lss (.t 52) (.t 51), none⟩])
                  (.seq
                   (.cond (.t 53)
                    .skip
                    (.exit 4))
                   (.seq
                    (.block 5
                     (.seq
                      (.reg [⟨(some 54), .iaddr 1 (.t 50) (.t 52), none⟩,
                        ⟨(some 55), .load none (.t 54), none⟩,
                        ⟨(some 16), .move (.t 55), none⟩])
                      (.reg [⟨(some 56), .move (.t 13), none⟩,
                        ⟨(some 57), .move (.t 16), none⟩,
                        ⟨(some 58), .call 39 [(.t 57)], none⟩,
                        ⟨(some 59), .lit true 29 1 [(.t 58)], none⟩,
                        ⟨(some 60), .append 29 1 24 (.t 56) (.t 59), none⟩,
                        ⟨(some 13), .move (.t 60), none⟩])))
                    (.reg [⟨(some 61), .bin .int .add (.t 52) (.c (.int .i64 1)), none⟩,
                      ⟨(some 52), .move (.t 61), none⟩]))))))))
             (.reg [⟨(some 45), .move (.t 14), none⟩,
               ⟨(some 46), .bin .int .add (.t 45) (.c (.int .i64 1)), none⟩,
               ⟨(some 14), .move (.t 46), none⟩]))))))
        (.seq
         (.reg [⟨(some 62), .move (.t 13), none⟩,
           ⟨(some 6), .move (.t 62), none⟩,
           ⟨(some 7), .move (.c (.int .i64 0)), none⟩])
         .ret)))))))))
theorem ent9 : EntOK Try.prog 9 ⟨63, v9, [.slot 6, .slot 7]⟩ := fun args σ K ha h =>
  enter (own := List.range 63) Try.func9 (by kernel_rfl) (by kernel_rfl) (by kernel_rfl) ha h
/-- changeling/values.Count -/
def v10 : ACode :=
(.seq
 (.reg [⟨(some 6), .move (.c (.int .i64 0)), none⟩,
   ⟨(some 7), .move (.c (.int .i64 0)), none⟩])
 (.seq
  (.seq
   (.reg [⟨(some 9), .move (.t 0), none⟩,
     ⟨(some 10), .move (.t 1), none⟩,
     ⟨(some 11), .move (.t 2), none⟩,
     ⟨(some 12), .call 35 [(.t 9), (.t 10), (.t 11)], none⟩,
     ⟨(some 8), .move (.t 12), none⟩])
   (.seq
    (.reg [⟨(some 13), .move (.t 8), none⟩,
      ⟨(some 14), .bin .int .neq (.t 13) (.c (.int .i64 0)), none⟩])
    (.cond (.t 14)
     (.seq
      (.reg [⟨(some 15), .move (.t 8), none⟩,
        ⟨(some 6), .move (.c (.int .i64 0)), none⟩,
        ⟨(some 7), .move (.t 15), none⟩])
      .ret)
     .skip)))
  (.seq
   (.reg [⟨(some 16), .move (.t 0), none⟩,
     ⟨(some 17), .call 36 [(.t 16)], none⟩,
     ⟨(some 18), .move (.t 1), none⟩,
     ⟨(some 19), .move (.t 2), none⟩,
     ⟨(some 20), .call 37 [(.t 17), (.t 18), (.t 19)], none⟩,
     ⟨(some 21), .move (.t 2), none⟩,
     ⟨(some 22), .iaddr 1 (.t 20) (.t 21), none⟩,
     ⟨(some 23), .load none (.t 22), none⟩,
     ⟨(some 6), .move (.t 23), none⟩,
     ⟨(some 7), .move (.c (.int .i64 0)), none⟩])
   .ret)))
theorem ent10 : EntOK Try.prog 10 ⟨24, v10, [.slot 6, .slot 7]⟩ := fun args σ K ha h =>
  enter (own := List.range 24) Try.func10 (by kernel_rfl) (by kernel_rfl) (by kernel_rfl) ha h
/-- changeling/values.Of -/
def v11 : ACode :=
(.seq
 (.reg [⟨(some 4), .new 33 (.t 1), none⟩,
   ⟨(some 6), .move (.c .nils), none⟩,
   ⟨(some 7), .move (.c (.int .i64 0)), none⟩])
 (.seq
  (.seq
   (.reg [⟨(some 10), .move (.t 0), none⟩,
     ⟨(some 11), .load (some 4) (.t 4), none⟩,
     ⟨(some 12), .lit true 33 4 [(.t 11)], none⟩,
     ⟨(some 13), .move (.t 2), none⟩,
     ⟨(some 14), .call 35 [(.t 10), (.t 12), (.t 13)], none⟩,
     ⟨(some 8), .move (.t 14), none⟩])
   (.seq
    (.reg [⟨(some 15), .move (.t 8), none⟩,
      ⟨(some 16), .bin .int .neq (.t 15) (.c (.int .i64 0)), none⟩])
    (.cond (.t 16)
     (.seq
      (.reg [⟨(some 17), .move (.t 8), none⟩,
        ⟨(some 6), .move (.c .nils), none⟩,
        ⟨(some 7), .move (.t 17), none⟩])
      .ret)
     .skip)))
  (.seq
   (.reg [⟨(some 18), .move (.t 0), none⟩,
     ⟨(some 19), .call 36 [(.t 18)], none⟩,
     ⟨(some 9), .move (.t 19), none⟩])
   (.seq
    (.seq
     (.reg [⟨(some 20), .move (.t 9), none⟩,
       ⟨(some 21), .load (some 4) (.t 4), none⟩,
       ⟨(some 22), .move (.t 2), none⟩,
       ⟨(some 23), .call 40 [(.t 20), (.t 21), (.t 22)], none⟩,
       ⟨(some 24), .bin .int .gtr (.t 23) (.c (.int .i64 4096)), none⟩])
     (.cond (.t 24)
      (.seq
       (.reg [⟨(some 6), .move (.c .nils), none⟩,
         ⟨(some 7), .move (.c (.int .i64 2)), none⟩])
       .ret)
      .skip))
    (.seq
     (.reg [⟨(some 25), .move (.t 9), none⟩,
       ⟨(some 26), .load (some 4) (.t 4), none⟩,
       ⟨(some 27), .move (.t 2), none⟩,
       ⟨(some 28), .call 41 [(.t 25), (.t 26), (.t 27)], none⟩,
       ⟨(some 29), .call 39 [(.t 28)], none⟩,
       ⟨(some 6), .move (.t 29), none⟩,
       ⟨(some 7), .move (.c (.int .i64 0)), none⟩])
     .ret)))))
theorem ent11 : EntOK Try.prog 11 ⟨30, v11, [.slot 6, .slot 7]⟩ := fun args σ K ha h =>
  enter (own := List.range 30) Try.func11 (by kernel_rfl) (by kernel_rfl) (by kernel_rfl) ha h
/-- changeling/changelinglaw20.named -/
def v12 : ACode :=
(.seq
 (.reg [⟨(some 2), .new 33 (.c (.agg [(.int .i64 0), (.int .i64 0), (.str ⟨#[]⟩), .nils])), none⟩])
 (.seq
  (.reg [⟨(some 3), .move (.t 0), none⟩,
    ⟨(some 4), .build [(.int .i64 0), (.int .i64 0), (.str ⟨#[]⟩), .nils] [(0, 1, (.c (.int .i64 2))), (2, 1, (.t 3))], none⟩,
    ⟨none, .store 4 (.t 2) (.t 4), none⟩])
  .ret))
theorem ent12 : EntOK Try.prog 12 ⟨5, v12, [.cell 2 (some 4)]⟩ := fun args σ K ha h =>
  enter (own := List.range 5) Try.func12 (by kernel_rfl) (by kernel_rfl) (by kernel_rfl) ha h
/-- changeling/decl.New -/
def v13 : ACode :=
(.seq
 (.reg [⟨(some 2), .move (.c .nilp), none⟩,
   ⟨(some 3), .new 39 (.c (.agg [(.int .i64 0), (.int .i64 0), (.int .i64 0)])), none⟩])
 (.seq
  (.reg [⟨(some 13), .call 42 [], none⟩,
    ⟨(some 4), .move (.t 13), none⟩])
  (.seq
   (.seq
    (.reg [⟨(some 14), .move (.t 0), none⟩,
      ⟨(some 15), .len .slice (.t 14), none⟩,
      ⟨(some 16), .move (.c (.int .i64 0)), none⟩])
    (.block 0
     (.loop
      (.seq
       (.reg [⟨(some 17), .bin .int .lss (.t 16) (.t 15), none⟩])
       (.seq
        (.cond (.t 17)
         .skip
         (.exit 0))
        (.seq
         (.block 1
          (.seq
           (.reg [⟨(some 18), .iaddr 5 (.t 14) (.t 16), none⟩,
             ⟨(some 19), .load (some 5) (.t 18), none⟩,
             ⟨(some 6), .new 106 (.c (.agg [(.str ⟨#[]⟩), .nils, .nils, (.int .i64 0), (.int .i64 0)])), none⟩,
             ⟨none, .store 5 (.t 6) (.t 19), none⟩])
           (.seq
            (.reg [⟨(some 20), .move (.t 4), none⟩,
              ⟨(some 21), .load (some 5) (.t 6), none⟩,
              ⟨(some 22), .call 43 [(.t 20), (.t 21)], none⟩,
              ⟨(some 7), .move (.t 22), none⟩])
            (.seq
             (.reg [⟨(some 23), .move (.t 7), none⟩,
               ⟨(some 24), .bin .int .neq (.t 23) (.c (.int .i64 0)), none⟩])
             (.cond (.t 24)
              (.seq
               (.reg [⟨(some 25), .move (.t 7), none⟩,
                 ⟨(some 26), .faddr 3 (.t 6), none⟩,
                 ⟨(some 27), .load (some 2) (.t 26), none⟩,
                 ⟨(some 28), .build [(.int .i64 0), (.int .i64 0), (.int .i64 0)] [(0, 1, (.t 25)), (1, 2, (.t 27))], none⟩,
                 ⟨(some 2), .move (.c .nilp), none⟩,
                 ⟨none, .store 3 (.t 3) (.t 28), none⟩])
               .ret)
              .skip)))))
         (.reg [⟨(some 29), .bin .int .add (.t 16) (.c (.int .i64 1)), none⟩,
           ⟨(some 16), .move (.t 29), none⟩])))))))
   (.seq
    (.seq
     (.reg [⟨(some 30), .move (.t 0), none⟩,
       ⟨(some 31), .len .slice (.t 30), none⟩,
       ⟨(some 32), .move (.c (.int .i64 0)), none⟩])
     (.block 2
      (.loop
       (.seq
        (.reg [⟨(some 33), .bin .int .lss (.t 32) (.t 31), none⟩])
        (.seq
         (.cond (.t 33)
          .skip
          (.exit 2))
         (.seq
          (.block 3
           (.seq
            (.reg [⟨(some 34), .iaddr 5 (.t 30) (.t 32), none⟩,
              ⟨(some 35), .load (some 5) (.t 34), none⟩,
              ⟨(some 9), .new 106 (.c (.agg [(.str ⟨#[]⟩), .nils, .nils, (.int .i64 0), (.int .i64 0)])), none⟩,
              ⟨none, .store 5 (.t 9) (.t 35), none⟩])
            (.seq
             (.reg [⟨(some 36), .faddr 2 (.t 9), none⟩,
               ⟨(some 37), .load none (.t 36), none⟩,
               ⟨(some 38), .len .slice (.t 37), none⟩,
               ⟨(some 39), .move (.c (.int .i64 0)), none⟩])
             (.block 4
              (.loop
               (.seq
                (.reg [⟨(some 40), .bin .int .lss (.t 39) (.t 38), none⟩])
                (.seq
                 (.cond (.t 40)
                  .skip
                  (.exit 4))
                 (.seq
                  (.block 5
                   (.seq
                    (.reg [⟨(some 41), .move (.t 39), none⟩,
                      ⟨(some 42), .iaddr 4 (.t 37) (.t 39), none⟩,
                      ⟨(some 43), .load (some 4) (.t 42), none⟩,
                      ⟨(some 11), .new 109 (.c (.agg [(.str ⟨#[]⟩), .nils, (.int .i64 0), (.int .i64 0)])), none⟩,
                      ⟨(some 10), .move (.t 41), none⟩,
                      ⟨none, .store 4 (.t 11) (.t 43), none⟩])
                    (.seq
                     (.reg [⟨(some 44), .move (.t 4), none⟩,
                       ⟨(some 45), .load (some 5) (.t 9), none⟩,
                       ⟨(some 46), .move (.t 10), none⟩,
                       ⟨(some 47), .load (some 4) (.t 11), none⟩,
                       ⟨(some 48), .call 44 [(.t 44), (.t 45), (.t 46), (.t 47)], none⟩,
                       ⟨(some 12), .move (.t 48), none⟩])
                     (.seq
                      (.reg [⟨(some 49), .move (.t 12), none⟩,
                        ⟨(some 50), .bin .int .neq (.t 49) (.c (.int .i64 0)), none⟩])
                      (.cond (.t 50)
                       (.seq
                        (.reg [⟨(some 51), .move (.t 12), none⟩,
                          ⟨(some 52), .faddr 2 (.t 11), none⟩,
                          ⟨(some 53), .load (some 2) (.t 52), none⟩,
                          ⟨(some 54), .build [(.int .i64 0), (.int .i64 0), (.int .i64 0)] [(0, 1, (.t 51)), (1, 2, (.t 53))], none⟩,
                          ⟨(some 2), .move (.c .nilp), none⟩,
                          ⟨none, .store 3 (.t 3) (.t 54), none⟩])
                        .ret)
                       .skip)))))
                  (.reg [⟨(some 55), .bin .int .add (.t 39) (.c (.int .i64 1)), none⟩,
                    ⟨(some 39), .move (.t 55), none⟩])))))))))
          (.reg [⟨(some 56), .bin .int .add (.t 32) (.c (.int .i64 1)), none⟩,
            ⟨(some 32), .move (.t 56), none⟩])))))))
    (.seq
     (.reg [⟨(some 57), .move (.t 4), none⟩,
       ⟨(some 58), .build [(.int .i64 0), (.int .i64 0), (.int .i64 0)] [], none⟩,
       ⟨(some 2), .move (.t 57), none⟩,
       ⟨none, .store 3 (.t 3) (.t 58), none⟩])
     .ret)))))
theorem ent13 : EntOK Try.prog 13 ⟨59, v13, [.slot 2, .cell 3 (some 3)]⟩ := fun args σ K ha h =>
  enter (own := List.range 59) Try.func13 (by kernel_rfl) (by kernel_rfl) (by kernel_rfl) ha h
/-- changeling/changelinglaw20.same -/
def v14 : ACode :=
(.seq
 (.reg [⟨(some 4), .move (.c (.bool false)), none⟩])
 (.seq
  (.seq
   (.reg [⟨(some 6), .move (.t 0), none⟩,
     ⟨(some 7), .len .slice (.t 6), none⟩,
     ⟨(some 8), .move (.t 1), none⟩,
     ⟨(some 9), .len .slice (.t 8), none⟩,
     ⟨(some 10), .bin .int .neq (.t 7) (.t 9), none⟩])
   (.cond (.t 10)
    (.seq
     (.reg [⟨(some 4), .move (.c (.bool false)), none⟩])
     .ret)
    .skip))
  (.seq
   (.seq
    (.reg [⟨(some 5), .move (.c (.int .i64 0)), none⟩])
    (.block 0
     (.loop
      (.seq
       (.seq
        (.reg [⟨(some 11), .move (.t 5), none⟩,
          ⟨(some 12), .move (.t 0), none⟩,
          ⟨(some 13), .len .slice (.t 12), none⟩,
          ⟨(some 14), .bin .int .lss (.t 11) (.t 13), none⟩])
        (.cond (.t 14)
         .skip
         (.exit 0)))
       (.seq
        (.block 1
         (.seq
          (.reg [⟨(some 17), .move (.t 0), none⟩,
            ⟨(some 18), .move (.t 5), none⟩,
            ⟨(some 19), .iaddr 3 (.t 17) (.t 18), none⟩,
            ⟨(some 20), .load (some 3) (.t 19), none⟩,
            ⟨(some 21), .move (.t 1), none⟩,
            ⟨(some 22), .move (.t 5), none⟩,
            ⟨(some 23), .iaddr 3 (.t 21) (.t 22), none⟩,
            ⟨(some 24), .load (some 3) (.t 23), none⟩,
            ⟨(some 25), .call 45 [(.t 20), (.t 24)], none⟩,
            ⟨(some 26), .not (.t 25), none⟩])
          (.cond (.t 26)
           (.seq
            (.reg [⟨(some 4), .move (.c (.bool false)), none⟩])
            .ret)
           .skip)))
        (.reg [⟨(some 15), .move (.t 5), none⟩,
          ⟨(some 16), .bin .int .add (.t 15) (.c (.int .i64 1)), none⟩,
          ⟨(some 5), .move (.t 16), none⟩]))))))
   (.seq
    (.reg [⟨(some 4), .move (.c (.bool true)), none⟩])
    .ret))))
theorem ent14 : EntOK Try.prog 14 ⟨27, v14, [.slot 4]⟩ := fun args σ K ha h =>
  enter (own := List.range 27) Try.func14 (by kernel_rfl) (by kernel_rfl) (by kernel_rfl) ha h
/-- changeling/changelinglaw20.known -/
def v15 : ACode :=
(.seq
 (.reg [⟨(some 0), .move (.c (.bool false)), none⟩])
 (.seq
  (.reg [⟨(some 10), .call 13 [(.c .nils)], none⟩,
    ⟨(some 9), .move (.t 10), none⟩,
    ⟨(some 11), .extract (.t 9) 0, none⟩,
    ⟨(some 12), .extract (.t 9) 1, none⟩,
    ⟨(some 2), .new 39 (.c (.agg [(.int .i64 0), (.int .i64 0), (.int .i64 0)])), none⟩,
    ⟨(some 1), .move (.t 11), none⟩,
    ⟨none, .store 3 (.t 2) (.t 12), none⟩])
  (.seq
   (.seq
    (.reg [⟨(some 13), .move (.t 1), none⟩,
      ⟨(some 14), .nileq .ptr false (.t 13) (.c .nilp), none⟩,
      ⟨(some 15), .move (.t 14), none⟩,
      ⟨(some 16), .faddr 0 (.t 2), some (15, false)⟩,
      ⟨(some 17), .load none (.t 16), some (15, false)⟩,
      ⟨(some 18), .bin .int .neq (.t 17) (.c (.int .i64 0)), some (15, false)⟩,
      ⟨(some 19), .pick (.t 15) (.c (.bool true)) (.t 18), none⟩])
    (.cond (.t 19)
     (.seq
      (.reg [⟨(some 0), .move (.c (.bool false)), none⟩])
      .ret)
     .skip))
   (.seq
    (.reg [⟨(some 21), .move (.t 1), none⟩,
      ⟨(some 22), .call 12 [(.c (.str ⟨#[73, 110, 116]⟩))], none⟩,
      ⟨(some 23), .call 11 [(.t 21), (.t 22), (.c (.int .i64 3))], none⟩,
      ⟨(some 20), .move (.t 23), none⟩,
      ⟨(some 24), .extract (.t 20) 0, none⟩,
      ⟨(some 25), .extract (.t 20) 1, none⟩,
      ⟨(some 3), .move (.t 24), none⟩,
      ⟨(some 4), .move (.t 25), none⟩])
    (.seq
     (.reg [⟨(some 27), .move (.t 1), none⟩,
       ⟨(some 28), .call 12 [(.c (.str ⟨#[66, 111, 111, 108]⟩))], none⟩,
       ⟨(some 29), .call 11 [(.t 27), (.t 28), (.c (.int .i64 1))], none⟩,
       ⟨(some 26), .move (.t 29), none⟩,
       ⟨(some 30), .extract (.t 26) 0, none⟩,
       ⟨(some 31), .extract (.t 26) 1, none⟩,
       ⟨(some 5), .move (.t 30), none⟩,
       ⟨(some 6), .move (.t 31), none⟩])
     (.seq
      (.reg [⟨(some 33), .move (.t 1), none⟩,
        ⟨(some 34), .call 12 [(.c (.str ⟨#[66, 111, 111, 108]⟩))], none⟩,
        ⟨(some 35), .call 12 [(.c (.str ⟨#[73, 110, 116]⟩))], none⟩,
        ⟨(some 36), .lit true 33 4 [(.t 34), (.t 35)], none⟩,
        ⟨(some 37), .call 9 [(.t 33), (.t 36), (.c (.int .i64 3))], none⟩,
        ⟨(some 32), .move (.t 37), none⟩,
        ⟨(some 38), .extract (.t 32) 0, none⟩,
        ⟨(some 39), .extract (.t 32) 1, none⟩,
        ⟨(some 7), .move (.t 38), none⟩,
        ⟨(some 8), .move (.t 39), none⟩])
      (.seq
       (.reg [⟨(some 40), .move (.t 4), none⟩,
         ⟨(some 41), .bin .int .eql (.t 40) (.c (.int .i64 0)), none⟩,
         ⟨(some 42), .move (.t 41), none⟩,
         ⟨(some 43), .move (.t 3), some (42, true)⟩,
         ⟨(some 44), .build [(.str ⟨#[]⟩), (.int .i64 0), .nils] [(1, 1, (.c (.int .i64 2)))], some (42, true)⟩,
         ⟨(some 45), .build [(.str ⟨#[]⟩), (.int .i64 0), .nils] [(1, 1, (.c (.int .i64 (-2))))], some (42, true)⟩,
         ⟨(some 46), .lit true 43 3 [(.t 44), (.t 45)], some (42, true)⟩,
         ⟨(some 47), .call 14 [(.t 43), (.t 46)], some (42, true)⟩,
         ⟨(some 48), .pick (.t 42) (.t 47) (.c (.bool false)), none⟩,
         ⟨(some 49), .move (.t 48), none⟩,
         ⟨(some 50), .move (.t 6), some (49, true)⟩,
         ⟨(some 51), .bin .int .eql (.t 50) (.c (.int .i64 0)), some (49, true)⟩,
         ⟨(some 52), .pick (.t 49) (.t 51) (.c (.bool false)), none⟩,
         ⟨(some 53), .move (.t 52), none⟩,
         ⟨(some 54), .move (.t 5), some (53, true)⟩,
         ⟨(some 55), .build [(.str ⟨#[]⟩), (.int .i64 0), .nils] [(0, 1, (.c (.str ⟨#[70, 97, 108, 115, 101]⟩)))], some (53, true)⟩,
         ⟨(some 56), .build [(.str ⟨#[]⟩), (.int .i64 0), .nils] [(0, 1, (.c (.str ⟨#[84, 114, 117, 101]⟩)))], some (53, true)⟩,
         ⟨(some 57), .lit true 43 3 [(.t 55), (.t 56)], some (53, true)⟩,
         ⟨(some 58), .call 14 [(.t 54), (.t 57)], some (53, true)⟩,
         ⟨(some 59), .pick (.t 53) (.t 58) (.c (.bool false)), none⟩,
         ⟨(some 60), .move (.t 59), none⟩,
         ⟨(some 61), .move (.t 8), some (60, true)⟩,
         ⟨(some 62), .bin .int .eql (.t 61) (.c (.int .i64 0)), some (60, true)⟩,
         ⟨(some 63), .pick (.t 60) (.t 62) (.c (.bool false)), none⟩,
         ⟨(some 64), .move (.t 63), none⟩,
         ⟨(some 65), .move (.t 7), some (64, true)⟩,
         ⟨(some 66), .len .slice (.t 65), some (64, true)⟩,
         ⟨(some 67), .bin .int .eql (.t 66) (.c (.int .i64 6)), some (64, true)⟩,
         ⟨(some 68), .pick (.t 64) (.t 67) (.c (.bool false)), none⟩,
         ⟨(some 69), .move (.t 68), none⟩,
         ⟨(some 70), .move (.t 7), some (69, true)⟩,
         ⟨(some 71), .iaddr 1 (.t 70) (.c (.int .i64 3)), some (69, true)⟩,
         ⟨(some 72), .load none (.t 71), some (69, true)⟩,
         ⟨(some 73), .build [(.str ⟨#[]⟩), (.int .i64 0), .nils] [(0, 1, (.c (.str ⟨#[70, 97, 108, 115, 101]⟩)))], some (69, true)⟩,
         ⟨(some 74), .build [(.str ⟨#[]⟩), (.int .i64 0), .nils] [(1, 1, (.c (.int .i64 (-1))))], some (69, true)⟩,
         ⟨(some 75), .lit true 43 3 [(.t 73), (.t 74)], some (69, true)⟩,
         ⟨(some 76), .call 14 [(.t 72), (.t 75)], some (69, true)⟩,
         ⟨(some 77), .pick (.t 69) (.t 76) (.c (.bool false)), none⟩,
         ⟨(some 0), .move (.t 77), none⟩])
       .ret)))))))
theorem ent15 : EntOK Try.prog 15 ⟨78, v15, [.slot 0]⟩ := fun args σ K ha h =>
  enter (own := List.range 78) Try.func15 (by kernel_rfl) (by kernel_rfl) (by kernel_rfl) ha h
/-- changeling/values.asks -/
def v35 : ACode :=
(.seq
 (.reg [⟨(some 6), .move (.c (.int .i64 0)), none⟩])
 (.seq
  (.seq
   (.reg [⟨(some 11), .move (.t 0), none⟩,
     ⟨(some 12), .nileq .ptr false (.t 11) (.c .nilp), none⟩])
   (.cond (.t 12)
    (.seq
     (.reg [⟨(some 6), .move (.c (.int .i64 3)), none⟩])
     .ret)
    .skip))
  (.seq
   (.seq
    (.reg [⟨(some 13), .move (.t 2), none⟩,
      ⟨(some 14), .bin .int .lss (.t 13) (.c (.int .i64 0)), none⟩,
      ⟨(some 15), .move (.t 14), none⟩,
      ⟨(some 16), .move (.t 2), some (15, false)⟩,
      ⟨(some 17), .bin .int .gtr (.t 16) (.c (.int .i64 64)), some (15, false)⟩,
      ⟨(some 18), .pick (.t 15) (.c (.bool true)) (.t 17), none⟩])
    (.cond (.t 18)
     (.seq
      (.reg [⟨(some 6), .move (.c (.int .i64 1)), none⟩])
      .ret)
     .skip))
   (.seq
    (.seq
     (.reg [⟨(some 19), .move (.t 1), none⟩,
       ⟨(some 20), .len .slice (.t 19), none⟩,
       ⟨(some 21), .move (.c (.int .i64 0)), none⟩])
     (.block 0
      (.loop
       (.seq
        (.reg [⟨(some 22), .bin .int .lss (.t 21) (.t 20), none⟩])
        (.seq
         (.cond (.t 22)
          .skip
          (.exit 0))
         (.seq
          (.block 1
           (.seq
            (.reg [⟨(some 23), .iaddr 4 (.t 19) (.t 21), none⟩,
              ⟨(some 24), .load (some 4) (.t 23), none⟩,
              ⟨(some 8), .new 33 (.c (.agg [(.int .i64 0), (.int .i64 0), (.str ⟨#[]⟩), .nils])), none⟩,
              ⟨none, .store 4 (.t 8) (.t 24), none⟩])
            (.seq
             (.reg [⟨(some 25), .load (some 4) (.t 8), none⟩,
               ⟨(some 26), .call 73 [(.t 25)], none⟩,
               ⟨(some 27), .not (.t 26), none⟩,
               ⟨(some 28), .move (.t 27), none⟩,
               ⟨(some 29), .move (.t 0), some (28, false)⟩,
               ⟨(some 30), .load (some 4) (.t 8), some (28, false)⟩,
               ⟨(some 31), .call 74 [(.t 29), (.t 30)], some (28, false)⟩,
               ⟨(some 32), .not (.t 31), some (28, false)⟩,
               ⟨(some 33), .pick (.t 28) (.c (.bool true)) (.t 32), none⟩])
             (.cond (.t 33)
              (.seq
               (.reg [⟨(some 6), .move (.c (.int .i64 1)), none⟩])
               .ret)
              .skip))))
          (.reg [⟨(some 34), .bin .int .add (.t 21) (.c (.int .i64 1)), none⟩,
            ⟨(some 21), .move (.t 34), none⟩])))))))
    (.seq
     (.seq
      (.reg [⟨(some 35), .move (.t 1), none⟩,
        ⟨(some 36), .len .slice (.t 35), none⟩,
        ⟨(some 37), .move (.c (.int .i64 0)), none⟩])
      (.block 2
       (.loop
        (.seq
         (.reg [⟨(some 38), .bin .int .lss (.t 37) (.t 36), none⟩])
         (.seq
          (.cond (.t 38)
           .skip
           (.exit 2))
          (.seq
           (.block 3
            (.seq
             (.reg [⟨(some 39), .iaddr 4 (.t 35) (.t 37), none⟩,
               ⟨(some 40), .load (some 4) (.t 39), none⟩,
               ⟨(some 10), .new 33 (.c (.agg [(.int .i64 0), (.int .i64 0), (.str ⟨#[]⟩), .nils])), none⟩,
               ⟨none, .store 4 (.t 10) (.t 40), none⟩])
             (.seq
              (.reg [⟨(some 41), .faddr 0 (.t 10), none⟩,
                ⟨(some 42), .load none (.t 41), none⟩,
                ⟨(some 43), .bin .int .eql (.t 42) (.c (.int .i64 3)), none⟩])
              (.cond (.t 43)
               (.seq
                (.reg [⟨(some 6), .move (.c (.int .i64 190)), none⟩])
                .ret)
               .skip))))
           (.reg [⟨(some 44), .bin .int .add (.t 37) (.c (.int .i64 1)), none⟩,
             ⟨(some 37), .move (.t 44), none⟩])))))))
     (.seq
      (.reg [⟨(some 6), .move (.c (.int .i64 0)), none⟩])
      .ret))))))
theorem ent35 : EntOK Try.prog 35 ⟨45, v35, [.slot 6]⟩ := fun args σ K ha h =>
  enter (own := List.range 45) Try.func35 (by kernel_rfl) (by kernel_rfl) (by kernel_rfl) ha h
/-- changeling/values.begin -/
def v36 : ACode :=
(.seq
 (.reg [⟨(some 2), .move (.c .nilp), none⟩])
 (.seq
  (.reg [⟨(some 3), .move (.t 0), none⟩,
    ⟨(some 4), .mkmap, none⟩,
    ⟨(some 5), .mkmap, none⟩,
    ⟨(some 6), .build [.nilp, .nilm, .nilm] [(0, 1, (.t 3)), (1, 1, (.t 4)), (2, 1, (.t 5))], none⟩,
    ⟨(some 7), .new 173 (.t 6), none⟩,
    ⟨(some 2), .move (.t 7), none⟩])
  .ret))
theorem ent36 : EntOK Try.prog 36 ⟨8, v36, [.slot 2]⟩ := fun args σ K ha h =>
  enter (own := List.range 8) Try.func36 (by kernel_rfl) (by kernel_rfl) (by kernel_rfl) ha h
/-- (*changeling/values.lister).rows -/
def v37 : ACode :=
(.seq
 (.reg [⟨(some 6), .move (.c .nils), none⟩])
 (.seq
  (.reg [⟨(some 13), .move (.t 2), none⟩,
    ⟨(some 14), .bin .int .add (.t 13) (.c (.int .i64 1)), none⟩,
    ⟨(some 15), .mkslice 3 1 8 [(.int .i64 0)] (.t 14) (.t 14), none⟩,
    ⟨(some 7), .move (.t 15), none⟩])
  (.seq
   (.reg [⟨(some 16), .move (.t 7), none⟩,
     ⟨(some 17), .iaddr 1 (.t 16) (.c (.int .i64 0)), none⟩,
     ⟨none, .store 1 (.t 17) (.c (.int .i64 1)), none⟩])
   (.seq
    (.seq
     (.reg [⟨(some 18), .move (.t 1), none⟩,
       ⟨(some 19), .len .slice (.t 18), none⟩,
       ⟨(some 20), .move (.c (.int .i64 0)), none⟩])
     (.block 0
      (.loop
       (.seq
        (.reg [⟨(some 21), .bin .int .lss (.t 20) (.t 19), none⟩])
        (.seq
         (.cond (.t 21)
          .skip
          (.exit 0))
         (.seq
          (.block 1
           (.seq
            (.reg [⟨(some 22), .move (.t 20), none⟩,
              ⟨(some 23), .iaddr 4 (.t 18) (.t 20), none⟩,
              ⟨(some 24), .load (some 4) (.t 23), none⟩,
              ⟨(some 9), .new 33 (.c (.agg [(.int .i64 0), (.int .i64 0), (.str ⟨#[]⟩), .nils])), none⟩,
              ⟨(some 8), .move (.t 22), none⟩,
              ⟨none, .store 4 (.t 9) (.t 24), none⟩])
            (.seq
             (.seq
              (.reg [⟨(some 25), .move (.t 8), none⟩,
                ⟨(some 26), .move (.t 2), none⟩,
                ⟨(some 27), .bin .int .geq (.t 25) (.t 26), none⟩])
              (.cond (.t 27)
               (.seq
                (.reg [⟨(some 28), .move (.t 2), none⟩,
                  ⟨(some 29), .bin .int .add (.t 28) (.c (.int .i64 1)), none⟩,
                  ⟨(some 30), .mkslice 3 1 8 [(.int .i64 0)] (.t 29) (.t 29), none⟩,
                  ⟨(some 6), .move (.t 30), none⟩])
                .ret)
               .skip))
             (.seq
              (.reg [⟨(some 31), .move (.t 2), none⟩,
                ⟨(some 32), .bin .int .add (.t 31) (.c (.int .i64 1)), none⟩,
                ⟨(some 33), .mkslice 3 1 8 [(.int .i64 0)] (.t 32) (.t 32), none⟩,
                ⟨(some 10), .move (.t 33), none⟩])
              (.seq
               (.seq
                (.reg [⟨(some 34), .move (.t 10), none⟩,
                  ⟨(some 35), .len .slice (.t 34), none⟩,
                  ⟨(some 36), .move (.c (.int .i64 0)), none⟩])
                (.block 2
                 (.loop
                  (.seq
                   (.reg [⟨(some 37), .bin .int .lss (.t 36) (.t 35), none⟩])
                   (.seq
                    (.cond (.t 37)
                     .skip
                     (.exit 2))
                    (.seq
                     (.block 3
                      (.seq
                       (.reg [⟨(some 38), .move (.t 36), none⟩,
                         ⟨(some 11), .move (.t 38), none⟩])
                       (.seq
                        (.reg [⟨(some 12), .move (.c (.int .i64 1)), none⟩])
                        (.block 4
                         (.loop
                          (.seq
                           (.seq
                            (.reg [⟨(some 39), .move (.t 12), none⟩,
                              ⟨(some 40), .move (.t 11), none⟩,
                              ⟨(some 41), .bin .int .leq (.t 39) (.t 40), none⟩])
                            (.cond (.t 41)
                             .skip
                             (.exit 4)))
                           (.seq
                            (.block 5
                             (.seq
                              (.reg [⟨(some 44), .move (.t 7), none⟩,
                                ⟨(some 45), .move (.t 11), none⟩,
                                ⟨(some 46), .move (.t 12), none⟩,
                                ⟨(some 47), .bin .int .sub (.t 45) (.t 46), none⟩,
                                ⟨(some 48), .iaddr 1 (.t 44) (.t 47), none⟩,
                                ⟨(some 49), .load none (.t 48), none⟩,
                                ⟨(some 50), .bin .int .gtr (.t 49) (.c (.int .i64 0)), none⟩])
                              (.cond (.t 50)
                               (.draw [] [([⟨(some 51), .move (.t 10), none⟩], []),
                                 ([⟨(some 52), .move (.t 11), none⟩], []),
                                 ([⟨(some 53), .move (.t 10), none⟩], []),
                                 ([⟨(some 54), .move (.t 11), none⟩], []),
                                 ([⟨(some 55), .iaddr 1 (.t 53) (.t 54), none⟩], []),
                                 ([⟨(some 56), .load none (.t 55), none⟩], []),
                                 ([⟨(some 57), .move (.t 7), none⟩], []),
                                 ([⟨(some 58), .move (.t 11), none⟩], []),
                                 ([⟨(some 59), .move (.t 12), none⟩], []),
                                 ([⟨(some 60), .bin .int .sub (.t 58) (.t 59), none⟩], []),
                                 ([⟨(some 61), .iaddr 1 (.t 57) (.t 60), none⟩], []),
                                 ([⟨(some 62), .load none (.t 61), none⟩], []),
                                 ([⟨(some 63), .move (.t 0), none⟩], []),
                                 ([⟨(some 64), .load (some 4) (.t 9), none⟩], []),
                                 ([⟨(some 65), .move (.t 12), none⟩], []),
                                 ([⟨(some 66), .call 40 [(.t 63), (.t 64), (.t 65)], none⟩], [⟨(some 55), .iaddr 1 (.t 53) (.t 54), none⟩, ⟨(some 56), .load none (.t 55), none⟩, ⟨(some 61), .iaddr 1 (.t 57) (.t 60), none⟩, ⟨(some 62), .load none (.t 61), none⟩]),
                                 ([⟨(some 67), .bin .int .mul (.t 62) (.t 66), none⟩], []),
                                 ([⟨(some 68), .bin .int .add (.t 56) (.t 67), none⟩], []),
                                 ([⟨(some 69), .min2 (.c (.int .i64 4097)) (.t 68), none⟩], []),
                                 ([⟨(some 70), .iaddr 1 (.t 51) (.t 52), none⟩], []),
                                 ([⟨none, .store 1 (.t 70) (.t 69), none⟩], [])])
                               .skip)))
                            (.reg [⟨(some 42), .move (.t 12), none⟩,
                              ⟨(some 43), .bin .int .add (.t 42) (.c (.int .i64 1)), none⟩,
                              ⟨(some 12), .move (.t 43), none⟩]))))))))
                     (.reg [⟨(some 71), .bin .int .add (.t 36) (.c (.int .i64 1)), none⟩,
                       ⟨(some 36), .move (.t 71), none⟩])))))))
               (.reg [⟨(some 72), .move (.t 10), none⟩,
                 ⟨(some 7), .move (.t 72), none⟩]))))))
          (.reg [⟨(some 73), .bin .int .add (.t 20) (.c (.int .i64 1)), none⟩,
            ⟨(some 20), .move (.t 73), none⟩])))))))
    (.seq
     (.reg [⟨(some 74), .move (.t 7), none⟩,
       ⟨(some 6), .move (.t 74), none⟩])
     .ret)))))
theorem ent37 : EntOK Try.prog 37 ⟨75, v37, [.slot 6]⟩ := fun args σ K ha h =>
  enter (own := List.range 75) Try.func37 (by kernel_rfl) (by kernel_rfl) (by kernel_rfl) ha h
/-- (*changeling/values.lister).listRows -/
def v38 : ACode :=
(.seq
 (.reg [⟨(some 6), .move (.c .nils), none⟩])
 (.seq
  (.seq
   (.reg [⟨(some 16), .move (.t 1), none⟩,
     ⟨(some 17), .len .slice (.t 16), none⟩,
     ⟨(some 18), .bin .int .eql (.t 17) (.c (.int .i64 0)), none⟩])
   (.cond (.t 18)
    (.seq
     (.seq
      (.reg [⟨(some 19), .move (.t 2), none⟩,
        ⟨(some 20), .bin .int .eql (.t 19) (.c (.int .i64 0)), none⟩])
      (.cond (.t 20)
       (.seq
        (.reg [⟨(some 21), .lit true 29 1 [(.c .nils)], none⟩,
          ⟨(some 6), .move (.t 21), none⟩])
        .ret)
       .skip))
     (.seq
      (.reg [⟨(some 6), .move (.c .nils), none⟩])
      .ret))
    .skip))
  (.seq
   (.reg [⟨(some 7), .move (.c .nils), none⟩])
   (.seq
    (.reg [⟨(some 22), .move (.t 0), none⟩,
      ⟨(some 23), .move (.t 1), none⟩,
      ⟨(some 24), .cut .slice 4 (.t 23) (some (.c (.int .i64 1))) none, none⟩,
      ⟨(some 25), .move (.t 2), none⟩,
      ⟨(some 26), .call 37 [(.t 22), (.t 24), (.t 25)], none⟩,
      ⟨(some 8), .move (.t 26), none⟩])
    (.seq
     (.seq
      (.reg [⟨(some 9), .move (.c (.int .i64 1)), none⟩])
      (.block 0
       (.loop
        (.seq
         (.seq
          (.reg [⟨(some 27), .move (.t 9), none⟩,
            ⟨(some 28), .move (.t 2), none⟩,
            ⟨(some 29), .bin .int .leq (.t 27) (.t 28), none⟩])
          (.cond (.t 29)
           .skip
           (.exit 0)))
         (.seq
          (.block 1
           (.seq
            (.seq
             (.reg [⟨(some 32), .move (.t 8), none⟩,
               ⟨(some 33), .move (.t 2), none⟩,
               ⟨(some 34), .move (.t 9), none⟩,
               ⟨(some 35), .bin .int .sub (.t 33) (.t 34), none⟩,
               ⟨(some 36), .iaddr 1 (.t 32) (.t 35), none⟩,
               ⟨(some 37), .load none (.t 36), none⟩,
               ⟨(some 38), .bin .int .eql (.t 37) (.c (.int .i64 0)), none⟩,
               ⟨(some 39), .move (.t 38), none⟩,
               ⟨(some 40), .move (.t 0), some (39, false)⟩,
               ⟨(some 41), .move (.t 1), some (39, false)⟩,
               ⟨(some 42), .iaddr 4 (.t 41) (.c (.int .i64 0)), some (39, false)⟩,
               ⟨(some 43), .load (some 4) (.t 42), some (39, false)⟩,
               ⟨(some 44), .move (.t 9), some (39, false)⟩,
               ⟨(some 45), .call 40 [(.t 40), (.t 43), (.t 44)], some (39, false)⟩,
               ⟨(some 46), .bin .int .eql (.t 45) (.c (.int .i64 0)), some (39, false)⟩,
               ⟨(some 47), .pick (.t 39) (.c (.bool true)) (.t 46), none⟩])
             (.cond (.t 47)
              (.exit 1)
              .skip))
            (.seq
             (.reg [⟨(some 48), .move (.t 0), none⟩,
               ⟨(some 49), .move (.t 1), none⟩,
               ⟨(some 50), .cut .slice 4 (.t 49) (some (.c (.int .i64 1))) none, none⟩,
               ⟨(some 51), .move (.t 2), none⟩,
               ⟨(some 52), .move (.t 9), none⟩,
               ⟨(some 53), .bin .int .sub (.t 51) (.t 52), none⟩,
               ⟨(some 54), .call 38 [(.t 48), (.t 50), (.t 53)], none⟩,
               ⟨(some 10), .move (.t 54), none⟩])
             (.seq
              (.reg [⟨(some 55), .move (.t 0), none⟩,
                ⟨(some 56), .move (.t 1), none⟩,
                ⟨(some 57), .iaddr 4 (.t 56) (.c (.int .i64 0)), none⟩,
                ⟨(some 58), .load (some 4) (.t 57), none⟩,
                ⟨(some 59), .move (.t 9), none⟩,
                ⟨(some 60), .call 41 [(.t 55), (.t 58), (.t 59)], none⟩,
                ⟨(some 61), .len .slice (.t 60), none⟩,
                ⟨(some 62), .move (.c (.int .i64 0)), none⟩])
              (.block 2
               (.loop
                (.seq
                 (.reg [⟨(some 63), .bin .int .lss (.t 62) (.t 61), none⟩])
                 (.seq
                  (.cond (.t 63)
                   .skip
                   (.exit 2))
                  (.seq
                   (.block 3
                    (.seq
                     (.reg [⟨(some 64), .iaddr 3 (.t 60) (.t 62), none⟩,
                       ⟨(some 65), .load (some 3) (.t 64), none⟩,
                       ⟨(some 12), .new 43 (.c (.agg [(.str ⟨#[]⟩), (.int .i64 0), .nils])), none⟩,
                       ⟨none, .store 3 (.t 12) (.t 65), none⟩])
                     (.seq
                      (.reg [⟨(some 66), .move (.t 10), none⟩,
                        ⟨(some 67), .len .slice (.t 66), none⟩,
                        ⟨(some 68), .move (.c (.int .i64 0)), none⟩])
                      (.block 4
                       (.loop
                        (.seq
                         (.reg [⟨(some 69), .bin .int .lss (.t 68) (.t 67), none⟩])
                         (.seq
                          (.cond (.t 69)
                           .skip
                           (.exit 4))
                          (.seq
                           (.block 5
                            (.seq
                             (.reg [⟨(some 70), .iaddr 1 (.t 66) (.t 68), none⟩,
                               ⟨(some 71), .load none (.t 70), none⟩,
                               ⟨(some 14), .move (.t 71), none⟩])
                             (.seq
                              (.reg [⟨(some 72), .load (some 3) (.t 12), none⟩,
                                ⟨(some 73), .lit true 43 3 [(.t 72)], none⟩,
                                ⟨(some 15), .move (.t 73), none⟩])
                              (.reg [⟨(some 74), .move (.t 7), none⟩,
                                ⟨(some 75), .move (.t 15), none⟩,
                                ⟨(some 76), .move (.t 14), none⟩,
                                ⟨(some 77), .append 43 3 48 (.t 75) (.t 76), none⟩,
                                ⟨(some 78), .lit true 29 1 [(.t 77)], none⟩,
                                ⟨(some 79), .append 29 1 24 (.t 74) (.t 78), none⟩,
                                ⟨(some 7), .move (.t 79), none⟩]))))
                           (.reg [⟨(some 80), .bin .int .add (.t 68) (.c (.int .i64 1)), none⟩,
                             ⟨(some 68), .move (.t 80), none⟩])))))))))
                   (.reg [⟨(some 81), .bin .int .add (.t 62) (.c (.int .i64 1)), none⟩,
                     ⟨(some 62), .move (.t 81), none⟩]))))))))))
          (.reg [⟨(some 30), .move (.t 9), none⟩,
            ⟨(some 31), .bin .int .add (.t 30) (.c (.int .i64 1)), none⟩,
            ⟨(some 9), .move (.t 31), none⟩]))))))
     (.seq
      (.reg [⟨(some 82), .move (.t 7), none⟩,
        ⟨(some 6), .move (.t 82), none⟩])
      .ret))))))
theorem ent38 : EntOK Try.prog 38 ⟨83, v38, [.slot 6]⟩ := fun args σ K ha h =>
  enter (own := List.range 83) Try.func38 (by kernel_rfl) (by kernel_rfl) (by kernel_rfl) ha h
/-- changeling/values.own -/
def v39 : ACode :=
(.seq
 (.reg [⟨(some 2), .move (.c .nils), none⟩])
 (.seq
  (.reg [⟨(some 3), .move (.c .nils), none⟩])
  (.seq
   (.seq
    (.reg [⟨(some 6), .move (.t 0), none⟩,
      ⟨(some 7), .len .slice (.t 6), none⟩,
      ⟨(some 8), .move (.c (.int .i64 0)), none⟩])
    (.block 0
     (.loop
      (.seq
       (.reg [⟨(some 9), .bin .int .lss (.t 8) (.t 7), none⟩])
       (.seq
        (.cond (.t 9)
         .skip
         (.exit 0))
        (.seq
         (.block 1
          (.seq
           (.reg [⟨(some 10), .iaddr 3 (.t 6) (.t 8), none⟩,
             ⟨(some 11), .load (some 3) (.t 10), none⟩,
             ⟨(some 5), .new 43 (.c (.agg [(.str ⟨#[]⟩), (.int .i64 0), .nils])), none⟩,
             ⟨none, .store 3 (.t 5) (.t 11), none⟩])
           (.seq
            (.reg [⟨(some 12), .faddr 2 (.t 5), none⟩,
              ⟨(some 13), .load none (.t 12), none⟩,
              ⟨(some 14), .call 39 [(.t 13)], none⟩,
              ⟨(some 15), .faddr 2 (.t 5), none⟩,
              ⟨none, .store 1 (.t 15) (.t 14), none⟩])
            (.reg [⟨(some 16), .move (.t 3), none⟩,
              ⟨(some 17), .load (some 3) (.t 5), none⟩,
              ⟨(some 18), .lit true 43 3 [(.t 17)], none⟩,
              ⟨(some 19), .append 43 3 48 (.t 16) (.t 18), none⟩,
              ⟨(some 3), .move (.t 19), none⟩]))))
         (.reg [⟨(some 20), .bin .int .add (.t 8) (.c (.int .i64 1)), none⟩,
           ⟨(some 8), .move (.t 20), none⟩])))))))
   (.seq
    (.reg [⟨(some 21), .move (.t 3), none⟩,
      ⟨(some 2), .move (.t 21), none⟩])
    .ret))))
theorem ent39 : EntOK Try.prog 39 ⟨22, v39, [.slot 2]⟩ := fun args σ K ha h =>
  enter (own := List.range 22) Try.func39 (by kernel_rfl) (by kernel_rfl) (by kernel_rfl) ha h
/-- (*changeling/values.lister).count -/
def v40 : ACode :=
(.seq
 (.reg [⟨(some 4), .new 33 (.t 1), none⟩,
   ⟨(some 6), .move (.c (.int .i64 0)), none⟩])
 (.seq
  (.block 0
   (.seq
    (.reg [⟨(some 16), .move (.t 2), none⟩,
      ⟨(some 17), .bin .int .lss (.t 16) (.c (.int .i64 1)), none⟩,
      ⟨(some 18), .move (.t 17), none⟩,
      ⟨(some 19), .faddr 0 (.t 4), some (18, false)⟩,
      ⟨(some 20), .load none (.t 19), some (18, false)⟩,
      ⟨(some 21), .bin .int .eql (.t 20) (.c (.int .i64 3)), some (18, false)⟩,
      ⟨(some 22), .pick (.t 18) (.c (.bool true)) (.t 21), none⟩,
      ⟨(some 15), .move (.t 22), none⟩])
    (.cond (.t 15)
     (.seq
      (.reg [⟨(some 6), .move (.c (.int .i64 0)), none⟩])
      .ret)
     (.seq
      (.reg [⟨(some 24), .load (some 4) (.t 4), none⟩,
        ⟨(some 25), .call 75 [(.t 24)], none⟩,
        ⟨(some 23), .move (.t 25), none⟩])
      (.cond (.t 23)
       (.seq
        (.reg [⟨(some 26), .move (.t 2), none⟩,
          ⟨(some 27), .min2 (.t 26) (.c (.int .i64 2)), none⟩,
          ⟨(some 6), .move (.t 27), none⟩])
        .ret)
       .skip)))))
  (.seq
   (.reg [⟨(some 28), .load (some 4) (.t 4), none⟩,
     ⟨(some 29), .call 76 [(.t 28)], none⟩,
     ⟨(some 30), .move (.t 2), none⟩,
     ⟨(some 31), .build [(.str ⟨#[]⟩), (.int .i64 0)] [(0, 1, (.t 29)), (1, 1, (.t 30))], none⟩,
     ⟨(some 7), .new 176 (.c (.agg [(.str ⟨#[]⟩), (.int .i64 0)])), none⟩,
     ⟨none, .store 2 (.t 7) (.t 31), none⟩])
   (.seq
    (.seq
     (.reg [⟨(some 33), .move (.t 0), none⟩,
       ⟨(some 34), .nilck (.t 33), none⟩,
       ⟨(some 35), .faddr 1 (.t 34), none⟩,
       ⟨(some 36), .load none (.t 35), none⟩,
       ⟨(some 37), .load (some 2) (.t 7), none⟩,
       ⟨(some 38), .lookup (.row [.str, .int]) (.int .i64 0) true (.t 36) (.t 37), none⟩,
       ⟨(some 32), .move (.t 38), none⟩,
       ⟨(some 39), .extract (.t 32) 0, none⟩,
       ⟨(some 40), .extract (.t 32) 1, none⟩,
       ⟨(some 8), .move (.t 39), none⟩,
       ⟨(some 9), .move (.t 40), none⟩])
     (.seq
      (.reg [⟨(some 41), .move (.t 9), none⟩])
      (.cond (.t 41)
       (.seq
        (.reg [⟨(some 42), .move (.t 8), none⟩,
          ⟨(some 6), .move (.t 42), none⟩])
        .ret)
       .skip)))
    (.seq
     (.reg [⟨(some 10), .move (.c (.int .i64 0)), none⟩])
     (.seq
      (.seq
       (.reg [⟨(some 43), .move (.t 0), none⟩,
         ⟨(some 44), .nilck (.t 43), none⟩,
         ⟨(some 45), .faddr 0 (.t 44), none⟩,
         ⟨(some 46), .load none (.t 45), none⟩,
         ⟨(some 47), .faddr 2 (.t 4), none⟩,
         ⟨(some 48), .load none (.t 47), none⟩,
         ⟨(some 51), .move (.c (.int .i64 0)), none⟩,
         ⟨(some 49), .call 77 [(.t 46), (.t 48)], none⟩,
         ⟨(some 50), .len .slice (.t 49), none⟩])
       (.block 1
        (.loop
         (.seq
          (.reg [⟨(some 52), .bin .int .lss (.t 51) (.t 50), none⟩])
          (.seq
           (.cond (.t 52)
            .skip
            (.exit 1))
           (.seq
            (.block 2
             (.seq
              (.reg [⟨(some 53), .iaddr 5 (.t 49) (.t 51), none⟩,
                ⟨(some 54), .load (some 5) (.t 53), none⟩,
                ⟨(some 12), .new 87 (.c (.agg [(.str ⟨#[]⟩), (.str ⟨#[]⟩), (.int .i64 0), (.int .i64 0), .nils])), none⟩,
                ⟨none, .store 5 (.t 12) (.t 54), none⟩])
              (.seq
               (.reg [⟨(some 56), .load (some 5) (.t 12), none⟩,
                 ⟨(some 57), .load (some 4) (.t 4), none⟩,
                 ⟨(some 58), .call 78 [(.t 56), (.t 57)], none⟩,
                 ⟨(some 55), .move (.t 58), none⟩,
                 ⟨(some 59), .extract (.t 55) 0, none⟩,
                 ⟨(some 60), .extract (.t 55) 1, none⟩,
                 ⟨(some 13), .move (.t 59), none⟩,
                 ⟨(some 14), .move (.t 60), none⟩])
               (.seq
                (.reg [⟨(some 61), .move (.t 14), none⟩])
                (.cond (.t 61)
                 (.reg [⟨(some 62), .move (.t 10), none⟩,
                   ⟨(some 63), .move (.t 0), none⟩,
                   ⟨(some 64), .move (.t 13), none⟩,
                   ⟨(some 65), .move (.t 2), none⟩,
                   ⟨(some 66), .bin .int .sub (.t 65) (.c (.int .i64 1)), none⟩,
                   ⟨(some 67), .call 37 [(.t 63), (.t 64), (.t 66)], none⟩,
                   ⟨(some 68), .move (.t 2), none⟩,
                   ⟨(some 69), .bin .int .sub (.t 68) (.c (.int .i64 1)), none⟩,
                   ⟨(some 70), .iaddr 1 (.t 67) (.t 69), none⟩,
                   ⟨(some 71), .load none (.t 70), none⟩,
                   ⟨(some 72), .bin .int .add (.t 62) (.t 71), none⟩,
                   ⟨(some 73), .min2 (.c (.int .i64 4097)) (.t 72), none⟩,
                   ⟨(some 10), .move (.t 73), none⟩])
                 .skip)))))
            (.reg [⟨(some 74), .bin .int .add (.t 51) (.c (.int .i64 1)), none⟩,
              ⟨(some 51), .move (.t 74), none⟩])))))))
      (.seq
       (.reg [⟨(some 75), .move (.t 0), none⟩,
         ⟨(some 76), .nilck (.t 75), none⟩,
         ⟨(some 77), .faddr 1 (.t 76), none⟩,
         ⟨(some 78), .load none (.t 77), none⟩,
         ⟨(some 79), .load (some 2) (.t 7), none⟩,
         ⟨(some 80), .move (.t 10), none⟩,
         ⟨none, .mapset (.row [.str, .int]) (.t 78) (.t 79) (.t 80), none⟩])
       (.seq
        (.reg [⟨(some 81), .move (.t 10), none⟩,
          ⟨(some 6), .move (.t 81), none⟩])
        .ret))))))))
theorem ent40 : EntOK Try.prog 40 ⟨82, v40, [.slot 6]⟩ := fun args σ K ha h =>
  enter (own := List.range 82) Try.func40 (by kernel_rfl) (by kernel_rfl) (by kernel_rfl) ha h
/-- (*changeling/values.lister).list -/
def v41 : ACode :=
(.seq
 (.reg [⟨(some 4), .new 33 (.t 1), none⟩,
   ⟨(some 6), .move (.c .nils), none⟩])
 (.seq
  (.seq
   (.reg [⟨(some 18), .move (.t 0), none⟩,
     ⟨(some 19), .load (some 4) (.t 4), none⟩,
     ⟨(some 20), .move (.t 2), none⟩,
     ⟨(some 21), .call 40 [(.t 18), (.t 19), (.t 20)], none⟩,
     ⟨(some 22), .bin .int .eql (.t 21) (.c (.int .i64 0)), none⟩])
   (.cond (.t 22)
    (.seq
     (.reg [⟨(some 6), .move (.c .nils), none⟩])
     .ret)
    .skip))
  (.seq
   (.seq
    (.reg [⟨(some 23), .load (some 4) (.t 4), none⟩,
      ⟨(some 24), .call 75 [(.t 23)], none⟩])
    (.cond (.t 24)
     (.seq
      (.seq
       (.reg [⟨(some 25), .move (.t 2), none⟩,
         ⟨(some 26), .bin .int .eql (.t 25) (.c (.int .i64 1)), none⟩])
       (.cond (.t 26)
        (.seq
         (.reg [⟨(some 27), .build [(.str ⟨#[]⟩), (.int .i64 0), .nils] [], none⟩,
           ⟨(some 28), .lit true 43 3 [(.t 27)], none⟩,
           ⟨(some 6), .move (.t 28), none⟩])
         .ret)
        .skip))
      (.seq
       (.reg [⟨(some 29), .move (.t 2), none⟩,
         ⟨(some 30), .bin .int .sub (.t 29) (.c (.int .i64 1)), none⟩,
         ⟨(some 7), .move (.t 30), none⟩])
       (.seq
        (.reg [⟨(some 31), .move (.t 7), none⟩,
          ⟨(some 32), .build [(.str ⟨#[]⟩), (.int .i64 0), .nils] [(1, 1, (.t 31))], none⟩,
          ⟨(some 33), .move (.t 7), none⟩,
          ⟨(some 34), .neg (.t 33), none⟩,
          ⟨(some 35), .build [(.str ⟨#[]⟩), (.int .i64 0), .nils] [(1, 1, (.t 34))], none⟩,
          ⟨(some 36), .lit true 43 3 [(.t 32), (.t 35)], none⟩,
          ⟨(some 6), .move (.t 36), none⟩])
        .ret)))
     .skip))
   (.seq
    (.reg [⟨(some 37), .load (some 4) (.t 4), none⟩,
      ⟨(some 38), .call 76 [(.t 37)], none⟩,
      ⟨(some 39), .move (.t 2), none⟩,
      ⟨(some 40), .build [(.str ⟨#[]⟩), (.int .i64 0)] [(0, 1, (.t 38)), (1, 1, (.t 39))], none⟩,
      ⟨(some 8), .new 176 (.c (.agg [(.str ⟨#[]⟩), (.int .i64 0)])), none⟩,
      ⟨none, .store 2 (.t 8) (.t 40), none⟩])
    (.seq
     (.seq
      (.reg [⟨(some 42), .move (.t 0), none⟩,
        ⟨(some 43), .nilck (.t 42), none⟩,
        ⟨(some 44), .faddr 2 (.t 43), none⟩,
        ⟨(some 45), .load none (.t 44), none⟩,
        ⟨(some 46), .load (some 2) (.t 8), none⟩,
        ⟨(some 47), .lookup (.row [.str, .int]) .nils true (.t 45) (.t 46), none⟩,
        ⟨(some 41), .move (.t 47), none⟩,
        ⟨(some 48), .extract (.t 41) 0, none⟩,
        ⟨(some 49), .extract (.t 41) 1, none⟩,
        ⟨(some 9), .move (.t 48), none⟩,
        ⟨(some 10), .move (.t 49), none⟩])
      (.seq
       (.reg [⟨(some 50), .move (.t 10), none⟩])
       (.cond (.t 50)
        (.seq
         (.reg [⟨(some 51), .move (.t 9), none⟩,
           ⟨(some 6), .move (.t 51), none⟩])
         .ret)
        .skip)))
     (.seq
      (.reg [⟨(some 11), .move (.c .nils), none⟩])
      (.seq
       (.seq
        (.reg [⟨(some 52), .move (.t 0), none⟩,
          ⟨(some 53), .nilck (.t 52), none⟩,
          ⟨(some 54), .faddr 0 (.t 53), none⟩,
          ⟨(some 55), .load none (.t 54), none⟩,
          ⟨(some 56), .faddr 2 (.t 4), none⟩,
          ⟨(some 57), .load none (.t 56), none⟩,
          ⟨(some 60), .move (.c (.int .i64 0)), none⟩,
          ⟨(some 58), .call 77 [(.t 55), (.t 57)], none⟩,
          ⟨(some 59), .len .slice (.t 58), none⟩])
        (.block 0
         (.loop
          (.seq
           (.reg [⟨(some 61), .bin .int .lss (.t 60) (.t 59), none⟩])
           (.seq
            (.cond (.t 61)
             .skip
             (.exit 0))
            (.seq
             (.block 1
              (.seq
               (.reg [⟨(some 62), .iaddr 5 (.t 58) (.t 60), none⟩,
                 ⟨(some 63), .load (some 5) (.t 62), none⟩,
                 ⟨(some 13), .new 87 (.c (.agg [(.str ⟨#[]⟩), (.str ⟨#[]⟩), (.int .i64 0), (.int .i64 0), .nils])), none⟩,
                 ⟨none, .store 5 (.t 13) (.t 63), none⟩])
               (.seq
                (.reg [⟨(some 65), .load (some 5) (.t 13), none⟩,
                  ⟨(some 66), .load (some 4) (.t 4), none⟩,
                  ⟨(some 67), .call 78 [(.t 65), (.t 66)], none⟩,
                  ⟨(some 64), .move (.t 67), none⟩,
                  ⟨(some 68), .extract (.t 64) 0, none⟩,
                  ⟨(some 69), .extract (.t 64) 1, none⟩,
                  ⟨(some 14), .move (.t 68), none⟩,
                  ⟨(some 15), .move (.t 69), none⟩])
                (.seq
                 (.seq
                  (.reg [⟨(some 70), .move (.t 15), none⟩,
                    ⟨(some 71), .not (.t 70), none⟩])
                  (.cond (.t 71)
                   (.exit 1)
                   .skip))
                 (.seq
                  (.reg [⟨(some 72), .move (.t 0), none⟩,
                    ⟨(some 73), .move (.t 14), none⟩,
                    ⟨(some 74), .move (.t 2), none⟩,
                    ⟨(some 75), .bin .int .sub (.t 74) (.c (.int .i64 1)), none⟩,
                    ⟨(some 76), .call 38 [(.t 72), (.t 73), (.t 75)], none⟩,
                    ⟨(some 77), .len .slice (.t 76), none⟩,
                    ⟨(some 78), .move (.c (.int .i64 0)), none⟩])
                  (.block 2
                   (.loop
                    (.seq
                     (.reg [⟨(some 79), .bin .int .lss (.t 78) (.t 77), none⟩])
                     (.seq
                      (.cond (.t 79)
                       .skip
                       (.exit 2))
                      (.seq
                       (.block 3
                        (.seq
                         (.reg [⟨(some 80), .iaddr 1 (.t 76) (.t 78), none⟩,
                           ⟨(some 81), .load none (.t 80), none⟩,
                           ⟨(some 17), .move (.t 81), none⟩])
                         (.reg [⟨(some 82), .move (.t 11), none⟩,
                           ⟨(some 83), .faddr 0 (.t 13), none⟩,
                           ⟨(some 84), .load none (.t 83), none⟩,
                           ⟨(some 85), .move (.t 17), none⟩,
                           ⟨(some 86), .build [(.str ⟨#[]⟩), (.int .i64 0), .nils] [(0, 1, (.t 84)), (2, 1, (.t 85))], none⟩,
                           ⟨(some 87), .lit true 43 3 [(.t 86)], none⟩,
                           ⟨(some 88), .append 43 3 48 (.t 82) (.t 87), none⟩,
                           ⟨(some 11), .move (.t 88), none⟩])))
                       (.reg [⟨(some 89), .bin .int .add (.t 78) (.c (.int .i64 1)), none⟩,
                         ⟨(some 78), .move (.t 89), none⟩])))))))))))
             (.reg [⟨(some 90), .bin .int .add (.t 60) (.c (.int .i64 1)), none⟩,
               ⟨(some 60), .move (.t 90), none⟩])))))))
       (.seq
        (.reg [⟨(some 91), .move (.t 0), none⟩,
          ⟨(some 92), .nilck (.t 91), none⟩,
          ⟨(some 93), .faddr 2 (.t 92), none⟩,
          ⟨(some 94), .load none (.t 93), none⟩,
          ⟨(some 95), .load (some 2) (.t 8), none⟩,
          ⟨(some 96), .move (.t 11), none⟩,
          ⟨none, .mapset (.row [.str, .int]) (.t 94) (.t 95) (.t 96), none⟩])
        (.seq
         (.reg [⟨(some 97), .move (.t 11), none⟩,
           ⟨(some 6), .move (.t 97), none⟩])
         .ret)))))))))
theorem ent41 : EntOK Try.prog 41 ⟨98, v41, [.slot 6]⟩ := fun args σ K ha h =>
  enter (own := List.range 98) Try.func41 (by kernel_rfl) (by kernel_rfl) (by kernel_rfl) ha h
/-- changeling/decl.basic -/
def v42 : ACode :=
(.seq
 (.reg [⟨(some 0), .move (.c .nilp), none⟩])
 (.seq
  (.reg [⟨(some 2), .mkmap, none⟩,
    ⟨none, .mapset .str (.t 2) (.c (.str ⟨#[73, 110, 116]⟩)) (.c (.int .i64 0)), none⟩,
    ⟨none, .mapset .str (.t 2) (.c (.str ⟨#[66, 111, 111, 108]⟩)) (.c (.int .i64 0)), none⟩,
    ⟨(some 3), .move (.t 2), none⟩,
    ⟨(some 4), .mkmap, none⟩,
    ⟨(some 5), .build [.nilm, .nilm, .nils] [(0, 1, (.t 3)), (1, 1, (.t 4))], none⟩,
    ⟨(some 6), .new 184 (.t 5), none⟩,
    ⟨(some 1), .move (.t 6), none⟩])
  (.seq
   (.reg [⟨(some 7), .move (.t 1), none⟩,
     ⟨(some 8), .build [(.str ⟨#[]⟩), (.str ⟨#[]⟩), (.int .i64 0), (.int .i64 0), .nils] [(0, 1, (.c (.str ⟨#[70, 97, 108, 115, 101]⟩))), (1, 1, (.c (.str ⟨#[66, 111, 111, 108]⟩)))], none⟩,
     ⟨(some 9), .call 79 [(.t 7), (.t 8)], none⟩])
   (.seq
    (.reg [⟨(some 10), .move (.t 1), none⟩,
      ⟨(some 11), .build [(.str ⟨#[]⟩), (.str ⟨#[]⟩), (.int .i64 0), (.int .i64 0), .nils] [(0, 1, (.c (.str ⟨#[84, 114, 117, 101]⟩))), (1, 1, (.c (.str ⟨#[66, 111, 111, 108]⟩))), (2, 1, (.c (.int .i64 1)))], none⟩,
      ⟨(some 12), .call 79 [(.t 10), (.t 11)], none⟩])
    (.seq
     (.reg [⟨(some 13), .move (.t 1), none⟩,
       ⟨(some 0), .move (.t 13), none⟩])
     .ret)))))
theorem ent42 : EntOK Try.prog 42 ⟨14, v42, [.slot 0]⟩ := fun args σ K ha h =>
  enter (own := List.range 14) Try.func42 (by kernel_rfl) (by kernel_rfl) (by kernel_rfl) ha h
/-- (*changeling/decl.Table).name -/
def v43 : ACode :=
(.seq
 (.reg [⟨(some 3), .new 106 (.t 1), none⟩,
   ⟨(some 4), .move (.c (.int .i64 0)), none⟩])
 (.seq
  (.seq
   (.reg [⟨(some 10), .move (.t 0), none⟩,
     ⟨(some 11), .nilck (.t 10), none⟩,
     ⟨(some 12), .faddr 0 (.t 11), none⟩,
     ⟨(some 13), .load none (.t 12), none⟩,
     ⟨(some 14), .faddr 0 (.t 3), none⟩,
     ⟨(some 15), .load none (.t 14), none⟩,
     ⟨(some 16), .lookup .str (.int .i64 0) true (.t 13) (.t 15), none⟩,
     ⟨(some 9), .move (.t 16), none⟩,
     ⟨(some 17), .extract (.t 9) 0, none⟩,
     ⟨(some 18), .extract (.t 9) 1, none⟩,
     ⟨(some 5), .move (.t 17), none⟩,
     ⟨(some 6), .move (.t 18), none⟩])
   (.seq
    (.reg [⟨(some 19), .move (.t 6), none⟩])
    (.cond (.t 19)
     (.seq
      (.reg [⟨(some 4), .move (.c (.int .i64 80)), none⟩])
      .ret)
     .skip)))
  (.seq
   (.seq
    (.reg [⟨(some 20), .faddr 1 (.t 3), none⟩,
      ⟨(some 21), .load none (.t 20), none⟩,
      ⟨(some 22), .len .slice (.t 21), none⟩,
      ⟨(some 23), .move (.c (.int .i64 0)), none⟩])
    (.block 0
     (.loop
      (.seq
       (.reg [⟨(some 24), .bin .int .lss (.t 23) (.t 22), none⟩])
       (.seq
        (.cond (.t 24)
         .skip
         (.exit 0))
        (.seq
         (.block 1
          (.seq
           (.reg [⟨(some 25), .move (.t 23), none⟩,
             ⟨(some 26), .iaddr 1 (.t 21) (.t 23), none⟩,
             ⟨(some 27), .load none (.t 26), none⟩,
             ⟨(some 7), .move (.t 25), none⟩,
             ⟨(some 8), .move (.t 27), none⟩])
           (.seq
            (.reg [⟨(some 28), .faddr 1 (.t 3), none⟩,
              ⟨(some 29), .load none (.t 28), none⟩,
              ⟨(some 30), .move (.t 7), none⟩,
              ⟨(some 31), .cut .slice 1 (.t 29) none (some (.t 30)), none⟩,
              ⟨(some 32), .move (.t 8), none⟩,
              ⟨(some 33), .call 80 [(.t 31), (.t 32)], none⟩,
              ⟨(some 34), .bin .int .geq (.t 33) (.c (.int .i64 0)), none⟩])
            (.cond (.t 34)
             (.seq
              (.reg [⟨(some 4), .move (.c (.int .i64 80)), none⟩])
              .ret)
             .skip))))
         (.reg [⟨(some 35), .bin .int .add (.t 23) (.c (.int .i64 1)), none⟩,
           ⟨(some 23), .move (.t 35), none⟩])))))))
   (.seq
    (.reg [⟨(some 36), .move (.t 0), none⟩,
      ⟨(some 37), .nilck (.t 36), none⟩,
      ⟨(some 38), .faddr 0 (.t 37), none⟩,
      ⟨(some 39), .load none (.t 38), none⟩,
      ⟨(some 40), .faddr 0 (.t 3), none⟩,
      ⟨(some 41), .load none (.t 40), none⟩,
      ⟨(some 42), .faddr 1 (.t 3), none⟩,
      ⟨(some 43), .load none (.t 42), none⟩,
      ⟨(some 44), .len .slice (.t 43), none⟩,
      ⟨none, .mapset .str (.t 39) (.t 41) (.t 44), none⟩])
    (.seq
     (.reg [⟨(some 4), .move (.c (.int .i64 0)), none⟩])
     .ret)))))
theorem ent43 : EntOK Try.prog 43 ⟨45, v43, [.slot 4]⟩ := fun args σ K ha h =>
  enter (own := List.range 45) Try.func43 (by kernel_rfl) (by kernel_rfl) (by kernel_rfl) ha h
/-- (*changeling/decl.Table).con -/
def v44 : ACode :=
(.seq
 (.reg [⟨(some 5), .new 106 (.t 1), none⟩,
   ⟨(some 7), .new 109 (.t 3), none⟩,
   ⟨(some 8), .move (.c (.int .i64 0)), none⟩])
 (.seq
  (.seq
   (.draw [] [([⟨(some 17), .move (.t 0), none⟩], []),
     ([⟨(some 18), .nilck (.t 17), none⟩], []),
     ([⟨(some 19), .faddr 1 (.t 18), none⟩], []),
     ([⟨(some 20), .load none (.t 19), none⟩], []),
     ([⟨(some 21), .faddr 0 (.t 7), none⟩], []),
     ([⟨(some 22), .load none (.t 21), none⟩], []),
     ([⟨(some 23), .lookup .str (.agg [(.str ⟨#[]⟩), (.str ⟨#[]⟩), (.int .i64 0), (.int .i64 0), .nils]) true (.t 20) (.t 22), none⟩], []),
     ([⟨(some 16), .move (.t 23), none⟩], []),
     ([⟨(some 24), .extract (.t 16) 0, none⟩], []),
     ([⟨(some 25), .extract (.t 16) 1, none⟩], []),
     ([⟨(some 9), .new 87 (.c (.agg [(.str ⟨#[]⟩), (.str ⟨#[]⟩), (.int .i64 0), (.int .i64 0), .nils])), none⟩], [⟨(some 19), .faddr 1 (.t 18), none⟩, ⟨(some 20), .load none (.t 19), none⟩, ⟨(some 21), .faddr 0 (.t 7), none⟩, ⟨(some 22), .load none (.t 21), none⟩, ⟨(some 23), .lookup .str (.agg [(.str ⟨#[]⟩), (.str ⟨#[]⟩), (.int .i64 0), (.int .i64 0), .nils]) true (.t 20) (.t 22), none⟩]),
     ([⟨none, .store 5 (.t 9) (.t 24), none⟩], []),
     ([⟨(some 10), .move (.t 25), none⟩], [])])
   (.seq
    (.reg [⟨(some 26), .move (.t 10), none⟩])
    (.cond (.t 26)
     (.seq
      (.reg [⟨(some 8), .move (.c (.int .i64 80)), none⟩])
      .ret)
     .skip)))
  (.seq
   (.reg [⟨(some 27), .faddr 0 (.t 7), none⟩,
     ⟨(some 28), .load none (.t 27), none⟩,
     ⟨(some 29), .faddr 0 (.t 5), none⟩,
     ⟨(some 30), .load none (.t 29), none⟩,
     ⟨(some 31), .move (.t 2), none⟩,
     ⟨(some 32), .faddr 1 (.t 5), none⟩,
     ⟨(some 33), .load none (.t 32), none⟩,
     ⟨(some 34), .len .slice (.t 33), none⟩,
     ⟨(some 35), .build [(.str ⟨#[]⟩), (.str ⟨#[]⟩), (.int .i64 0), (.int .i64 0), .nils] [(0, 1, (.t 28)), (1, 1, (.t 30)), (2, 1, (.t 31)), (3, 1, (.t 34))], none⟩,
     ⟨(some 11), .new 87 (.c (.agg [(.str ⟨#[]⟩), (.str ⟨#[]⟩), (.int .i64 0), (.int .i64 0), .nils])), none⟩,
     ⟨none, .store 5 (.t 11) (.t 35), none⟩])
   (.seq
    (.seq
     (.reg [⟨(some 36), .faddr 1 (.t 7), none⟩,
       ⟨(some 37), .load none (.t 36), none⟩,
       ⟨(some 38), .len .slice (.t 37), none⟩,
       ⟨(some 39), .move (.c (.int .i64 0)), none⟩])
     (.block 0
      (.loop
       (.seq
        (.reg [⟨(some 40), .bin .int .lss (.t 39) (.t 38), none⟩])
        (.seq
         (.cond (.t 40)
          .skip
          (.exit 0))
         (.seq
          (.block 1
           (.seq
            (.reg [⟨(some 41), .iaddr 4 (.t 37) (.t 39), none⟩,
              ⟨(some 42), .load (some 4) (.t 41), none⟩,
              ⟨(some 13), .new 33 (.c (.agg [(.int .i64 0), (.int .i64 0), (.str ⟨#[]⟩), .nils])), none⟩,
              ⟨none, .store 4 (.t 13) (.t 42), none⟩])
            (.seq
             (.reg [⟨(some 44), .move (.t 0), none⟩,
               ⟨(some 45), .faddr 1 (.t 5), none⟩,
               ⟨(some 46), .load none (.t 45), none⟩,
               ⟨(some 47), .load (some 4) (.t 13), none⟩,
               ⟨(some 48), .call 81 [(.t 44), (.t 46), (.t 47)], none⟩,
               ⟨(some 43), .move (.t 48), none⟩,
               ⟨(some 49), .extract (.t 43) 0, none⟩,
               ⟨(some 50), .extract (.t 43) 1, none⟩,
               ⟨(some 14), .new 33 (.c (.agg [(.int .i64 0), (.int .i64 0), (.str ⟨#[]⟩), .nils])), none⟩,
               ⟨none, .store 4 (.t 14) (.t 49), none⟩,
               ⟨(some 15), .move (.t 50), none⟩])
             (.seq
              (.seq
               (.reg [⟨(some 51), .move (.t 15), none⟩,
                 ⟨(some 52), .bin .int .neq (.t 51) (.c (.int .i64 0)), none⟩])
               (.cond (.t 52)
                (.seq
                 (.reg [⟨(some 53), .move (.t 15), none⟩,
                   ⟨(some 8), .move (.t 53), none⟩])
                 .ret)
                .skip))
              (.reg [⟨(some 54), .faddr 4 (.t 11), none⟩,
                ⟨(some 55), .load none (.t 54), none⟩,
                ⟨(some 56), .load (some 4) (.t 14), none⟩,
                ⟨(some 57), .lit true 33 4 [(.t 56)], none⟩,
                ⟨(some 58), .append 33 4 56 (.t 55) (.t 57), none⟩,
                ⟨(some 59), .faddr 4 (.t 11), none⟩,
                ⟨none, .store 1 (.t 59) (.t 58), none⟩])))))
          (.reg [⟨(some 60), .bin .int .add (.t 39) (.c (.int .i64 1)), none⟩,
            ⟨(some 39), .move (.t 60), none⟩])))))))
    (.seq
     (.reg [⟨(some 61), .move (.t 0), none⟩,
       ⟨(some 62), .load (some 5) (.t 11), none⟩,
       ⟨(some 63), .call 79 [(.t 61), (.t 62)], none⟩])
     (.seq
      (.reg [⟨(some 8), .move (.c (.int .i64 0)), none⟩])
      .ret))))))
theorem ent44 : EntOK Try.prog 44 ⟨64, v44, [.slot 8]⟩ := fun args σ K ha h =>
  enter (own := List.range 64) Try.func44 (by kernel_rfl) (by kernel_rfl) (by kernel_rfl) ha h
/-- changeling/changelingref14.SameTerm -/
def v45 : ACode :=
(.seq
 (.reg [⟨(some 2), .new 43 (.t 0), none⟩,
   ⟨(some 3), .new 43 (.t 1), none⟩,
   ⟨(some 4), .move (.c (.bool false)), none⟩])
 (.seq
  (.seq
   (.reg [⟨(some 6), .faddr 0 (.t 2), none⟩,
     ⟨(some 7), .load none (.t 6), none⟩,
     ⟨(some 8), .faddr 0 (.t 3), none⟩,
     ⟨(some 9), .load none (.t 8), none⟩,
     ⟨(some 10), .bin .str .neq (.t 7) (.t 9), none⟩,
     ⟨(some 11), .move (.t 10), none⟩,
     ⟨(some 12), .faddr 1 (.t 2), some (11, false)⟩,
     ⟨(some 13), .load none (.t 12), some (11, false)⟩,
     ⟨(some 14), .faddr 1 (.t 3), some (11, false)⟩,
     ⟨(some 15), .load none (.t 14), some (11, false)⟩,
     ⟨(some 16), .bin .int .neq (.t 13) (.t 15), some (11, false)⟩,
     ⟨(some 17), .pick (.t 11) (.c (.bool true)) (.t 16), none⟩,
     ⟨(some 18), .move (.t 17), none⟩,
     ⟨(some 19), .faddr 2 (.t 2), some (18, false)⟩,
     ⟨(some 20), .load none (.t 19), some (18, false)⟩,
     ⟨(some 21), .len .slice (.t 20), some (18, false)⟩,
     ⟨(some 22), .faddr 2 (.t 3), some (18, false)⟩,
     ⟨(some 23), .load none (.t 22), some (18, false)⟩,
     ⟨(some 24), .len .slice (.t 23), some (18, false)⟩,
     ⟨(some 25), .bin .int .neq (.t 21) (.t 24), some (18, false)⟩,
     ⟨(some 26), .pick (.t 18) (.c (.bool true)) (.t 25), none⟩])
   (.cond (.t 26)
    (.seq
     (.reg [⟨(some 4), .move (.c (.bool false)), none⟩])
     .ret)
    .skip))
  (.seq
   (.seq
    (.reg [⟨(some 5), .move (.c (.int .i64 0)), none⟩])
    (.block 0
     (.loop
      (.seq
       (.seq
        (.reg [⟨(some 27), .move (.t 5), none⟩,
          ⟨(some 28), .faddr 2 (.t 2), none⟩,
          ⟨(some 29), .load none (.t 28), none⟩,
          ⟨(some 30), .len .slice (.t 29), none⟩,
          ⟨(some 31), .bin .int .lss (.t 27) (.t 30), none⟩])
        (.cond (.t 31)
         .skip
         (.exit 0)))
       (.seq
        (.block 1
         (.seq
          (.reg [⟨(some 34), .faddr 2 (.t 2), none⟩,
            ⟨(some 35), .load none (.t 34), none⟩,
            ⟨(some 36), .move (.t 5), none⟩,
            ⟨(some 37), .iaddr 3 (.t 35) (.t 36), none⟩,
            ⟨(some 38), .load (some 3) (.t 37), none⟩,
            ⟨(some 39), .faddr 2 (.t 3), none⟩,
            ⟨(some 40), .load none (.t 39), none⟩,
            ⟨(some 41), .move (.t 5), none⟩,
            ⟨(some 42), .iaddr 3 (.t 40) (.t 41), none⟩,
            ⟨(some 43), .load (some 3) (.t 42), none⟩,
            ⟨(some 44), .call 45 [(.t 38), (.t 43)], none⟩,
            ⟨(some 45), .not (.t 44), none⟩])
          (.cond (.t 45)
           (.seq
            (.reg [⟨(some 4), .move (.c (.bool false)), none⟩])
            .ret)
           .skip)))
        (.reg [⟨(some 32), .move (.t 5), none⟩,
          ⟨(some 33), .bin .int .add (.t 32) (.c (.int .i64 1)), none⟩,
          ⟨(some 5), .move (.t 33), none⟩]))))))
   (.seq
    (.reg [⟨(some 4), .move (.c (.bool true)), none⟩])
    .ret))))
theorem ent45 : EntOK Try.prog 45 ⟨46, v45, [.slot 4]⟩ := fun args σ K ha h =>
  enter (own := List.range 46) Try.func45 (by kernel_rfl) (by kernel_rfl) (by kernel_rfl) ha h
/-- changeling/unify.Right -/
def v73 : ACode :=
(.seq
 (.reg [⟨(some 1), .new 33 (.t 0), none⟩,
   ⟨(some 2), .move (.c (.bool false)), none⟩])
 (.seq
  (.seq
   (.reg [⟨(some 5), .faddr 0 (.t 1), none⟩,
     ⟨(some 6), .load none (.t 5), none⟩])
   (.block 0
    (.seq
     (.reg [⟨(some 8), .bin .int .eql (.t 6) (.c (.int .i64 1)), none⟩,
       ⟨(some 7), .move (.t 8), none⟩])
     (.cond (.t 7)
      (.seq
       (.reg [⟨(some 9), .faddr 1 (.t 1), none⟩,
         ⟨(some 10), .load none (.t 9), none⟩,
         ⟨(some 11), .bin .int .geq (.t 10) (.c (.int .i64 0)), none⟩,
         ⟨(some 12), .move (.t 11), none⟩,
         ⟨(some 13), .faddr 1 (.t 1), some (12, true)⟩,
         ⟨(some 14), .load none (.t 13), some (12, true)⟩,
         ⟨(some 15), .bin .int .leq (.t 14) (.c (.int .i64 1073741824)), some (12, true)⟩,
         ⟨(some 16), .pick (.t 12) (.t 15) (.c (.bool false)), none⟩,
         ⟨(some 17), .move (.t 16), none⟩,
         ⟨(some 18), .faddr 2 (.t 1), some (17, true)⟩,
         ⟨(some 19), .load none (.t 18), some (17, true)⟩,
         ⟨(some 20), .bin .str .eql (.t 19) (.c (.str ⟨#[]⟩)), some (17, true)⟩,
         ⟨(some 21), .pick (.t 17) (.t 20) (.c (.bool false)), none⟩,
         ⟨(some 22), .move (.t 21), none⟩,
         ⟨(some 23), .faddr 3 (.t 1), some (22, true)⟩,
         ⟨(some 24), .load none (.t 23), some (22, true)⟩,
         ⟨(some 25), .len .slice (.t 24), some (22, true)⟩,
         ⟨(some 26), .bin .int .eql (.t 25) (.c (.int .i64 0)), some (22, true)⟩,
         ⟨(some 27), .pick (.t 22) (.t 26) (.c (.bool false)), none⟩,
         ⟨(some 2), .move (.t 27), none⟩])
       .ret)
      (.seq
       (.reg [⟨(some 29), .bin .int .eql (.t 6) (.c (.int .i64 2)), none⟩,
         ⟨(some 28), .move (.t 29), none⟩])
       (.cond (.t 28)
        (.seq
         (.reg [⟨(some 30), .faddr 2 (.t 1), none⟩,
           ⟨(some 31), .load none (.t 30), none⟩,
           ⟨(some 32), .bin .str .eql (.t 31) (.c (.str ⟨#[]⟩)), none⟩,
           ⟨(some 33), .move (.t 32), none⟩,
           ⟨(some 34), .faddr 1 (.t 1), some (33, false)⟩,
           ⟨(some 35), .load none (.t 34), some (33, false)⟩,
           ⟨(some 36), .bin .int .neq (.t 35) (.c (.int .i64 0)), some (33, false)⟩,
           ⟨(some 37), .pick (.t 33) (.c (.bool true)) (.t 36), none⟩])
         (.cond (.t 37)
          (.seq
           (.reg [⟨(some 2), .move (.c (.bool false)), none⟩])
           .ret)
          .skip))
        (.seq
         (.reg [⟨(some 39), .bin .int .eql (.t 6) (.c (.int .i64 3)), none⟩,
           ⟨(some 38), .move (.t 39), none⟩])
         (.cond (.t 38)
          (.seq
           (.reg [⟨(some 40), .faddr 2 (.t 1), none⟩,
             ⟨(some 41), .load none (.t 40), none⟩,
             ⟨(some 42), .bin .str .neq (.t 41) (.c (.str ⟨#[]⟩)), none⟩,
             ⟨(some 43), .move (.t 42), none⟩,
             ⟨(some 44), .faddr 1 (.t 1), some (43, false)⟩,
             ⟨(some 45), .load none (.t 44), some (43, false)⟩,
             ⟨(some 46), .bin .int .neq (.t 45) (.c (.int .i64 0)), some (43, false)⟩,
             ⟨(some 47), .pick (.t 43) (.c (.bool true)) (.t 46), none⟩,
             ⟨(some 48), .move (.t 47), none⟩,
             ⟨(some 49), .faddr 3 (.t 1), some (48, false)⟩,
             ⟨(some 50), .load none (.t 49), some (48, false)⟩,
             ⟨(some 51), .len .slice (.t 50), some (48, false)⟩,
             ⟨(some 52), .bin .int .neq (.t 51) (.c (.int .i64 2)), some (48, false)⟩,
             ⟨(some 53), .pick (.t 48) (.c (.bool true)) (.t 52), none⟩])
           (.cond (.t 53)
            (.seq
             (.reg [⟨(some 2), .move (.c (.bool false)), none⟩])
             .ret)
            .skip))
          (.seq
           (.reg [⟨(some 2), .move (.c (.bool false)), none⟩])
           .ret)))))))))
  (.seq
   (.seq
    (.reg [⟨(some 54), .faddr 3 (.t 1), none⟩,
      ⟨(some 55), .load none (.t 54), none⟩,
      ⟨(some 56), .len .slice (.t 55), none⟩,
      ⟨(some 57), .move (.c (.int .i64 0)), none⟩])
    (.block 1
     (.loop
      (.seq
       (.reg [⟨(some 58), .bin .int .lss (.t 57) (.t 56), none⟩])
       (.seq
        (.cond (.t 58)
         .skip
         (.exit 1))
        (.seq
         (.block 2
          (.seq
           (.reg [⟨(some 59), .iaddr 4 (.t 55) (.t 57), none⟩,
             ⟨(some 60), .load (some 4) (.t 59), none⟩,
             ⟨(some 4), .new 33 (.c (.agg [(.int .i64 0), (.int .i64 0), (.str ⟨#[]⟩), .nils])), none⟩,
             ⟨none, .store 4 (.t 4) (.t 60), none⟩])
           (.seq
            (.reg [⟨(some 61), .load (some 4) (.t 4), none⟩,
              ⟨(some 62), .call 73 [(.t 61)], none⟩,
              ⟨(some 63), .not (.t 62), none⟩])
            (.cond (.t 63)
             (.seq
              (.reg [⟨(some 2), .move (.c (.bool false)), none⟩])
              .ret)
             .skip))))
         (.reg [⟨(some 64), .bin .int .add (.t 57) (.c (.int .i64 1)), none⟩,
           ⟨(some 57), .move (.t 64), none⟩])))))))
   (.seq
    (.reg [⟨(some 2), .move (.c (.bool true)), none⟩])
    .ret))))
theorem ent73 : EntOK Try.prog 73 ⟨65, v73, [.slot 2]⟩ := fun args σ K ha h =>
  enter (own := List.range 65) Try.func73 (by kernel_rfl) (by kernel_rfl) (by kernel_rfl) ha h
/-- changeling/values.known -/
def v74 : ACode :=
(.seq
 (.reg [⟨(some 3), .new 33 (.t 1), none⟩,
   ⟨(some 4), .move (.c (.bool false)), none⟩])
 (.seq
  (.seq
   (.reg [⟨(some 9), .faddr 0 (.t 3), none⟩,
     ⟨(some 10), .load none (.t 9), none⟩,
     ⟨(some 11), .bin .int .eql (.t 10) (.c (.int .i64 2)), none⟩])
   (.cond (.t 11)
    (.seq
     (.reg [⟨(some 13), .move (.t 0), none⟩,
       ⟨(some 14), .faddr 2 (.t 3), none⟩,
       ⟨(some 15), .load none (.t 14), none⟩,
       ⟨(some 16), .call 131 [(.t 13), (.t 15)], none⟩,
       ⟨(some 12), .move (.t 16), none⟩,
       ⟨(some 17), .extract (.t 12) 0, none⟩,
       ⟨(some 18), .extract (.t 12) 1, none⟩,
       ⟨(some 5), .move (.t 17), none⟩,
       ⟨(some 6), .move (.t 18), none⟩])
     (.seq
      (.reg [⟨(some 19), .move (.t 6), none⟩,
        ⟨(some 20), .not (.t 19), none⟩,
        ⟨(some 21), .move (.t 20), none⟩,
        ⟨(some 22), .move (.t 5), some (21, false)⟩,
        ⟨(some 23), .faddr 3 (.t 3), some (21, false)⟩,
        ⟨(some 24), .load none (.t 23), some (21, false)⟩,
        ⟨(some 25), .len .slice (.t 24), some (21, false)⟩,
        ⟨(some 26), .bin .int .neq (.t 22) (.t 25), some (21, false)⟩,
        ⟨(some 27), .pick (.t 21) (.c (.bool true)) (.t 26), none⟩])
      (.cond (.t 27)
       (.seq
        (.reg [⟨(some 4), .move (.c (.bool false)), none⟩])
        .ret)
       .skip)))
    .skip))
  (.seq
   (.seq
    (.reg [⟨(some 28), .faddr 3 (.t 3), none⟩,
      ⟨(some 29), .load none (.t 28), none⟩,
      ⟨(some 30), .len .slice (.t 29), none⟩,
      ⟨(some 31), .move (.c (.int .i64 0)), none⟩])
    (.block 0
     (.loop
      (.seq
       (.reg [⟨(some 32), .bin .int .lss (.t 31) (.t 30), none⟩])
       (.seq
        (.cond (.t 32)
         .skip
         (.exit 0))
        (.seq
         (.block 1
          (.seq
           (.reg [⟨(some 33), .iaddr 4 (.t 29) (.t 31), none⟩,
             ⟨(some 34), .load (some 4) (.t 33), none⟩,
             ⟨(some 8), .new 33 (.c (.agg [(.int .i64 0), (.int .i64 0), (.str ⟨#[]⟩), .nils])), none⟩,
             ⟨none, .store 4 (.t 8) (.t 34), none⟩])
           (.seq
            (.reg [⟨(some 35), .move (.t 0), none⟩,
              ⟨(some 36), .load (some 4) (.t 8), none⟩,
              ⟨(some 37), .call 74 [(.t 35), (.t 36)], none⟩,
              ⟨(some 38), .not (.t 37), none⟩])
            (.cond (.t 38)
             (.seq
              (.reg [⟨(some 4), .move (.c (.bool false)), none⟩])
              .ret)
             .skip))))
         (.reg [⟨(some 39), .bin .int .add (.t 31) (.c (.int .i64 1)), none⟩,
           ⟨(some 31), .move (.t 39), none⟩])))))))
   (.seq
    (.reg [⟨(some 4), .move (.c (.bool true)), none⟩])
    .ret))))
theorem ent74 : EntOK Try.prog 74 ⟨40, v74, [.slot 4]⟩ := fun args σ K ha h =>
  enter (own := List.range 40) Try.func74 (by kernel_rfl) (by kernel_rfl) (by kernel_rfl) ha h
/-- changeling/values.integer -/
def v75 : ACode :=
(.seq
 (.reg [⟨(some 1), .new 33 (.t 0), none⟩,
   ⟨(some 2), .move (.c (.bool false)), none⟩])
 (.seq
  (.reg [⟨(some 3), .faddr 0 (.t 1), none⟩,
    ⟨(some 4), .load none (.t 3), none⟩,
    ⟨(some 5), .bin .int .eql (.t 4) (.c (.int .i64 1)), none⟩,
    ⟨(some 6), .move (.t 5), none⟩,
    ⟨(some 7), .faddr 2 (.t 1), some (6, false)⟩,
    ⟨(some 8), .load none (.t 7), some (6, false)⟩,
    ⟨(some 9), .bin .str .eql (.t 8) (.c (.str ⟨#[73, 110, 116]⟩)), some (6, false)⟩,
    ⟨(some 10), .pick (.t 6) (.c (.bool true)) (.t 9), none⟩,
    ⟨(some 2), .move (.t 10), none⟩])
  .ret))
theorem ent75 : EntOK Try.prog 75 ⟨11, v75, [.slot 2]⟩ := fun args σ K ha h =>
  enter (own := List.range 11) Try.func75 (by kernel_rfl) (by kernel_rfl) (by kernel_rfl) ha h
/-- changeling/values.text -/
def v76 : ACode :=
(.seq
 (.reg [⟨(some 1), .new 33 (.t 0), none⟩,
   ⟨(some 2), .move (.c (.str ⟨#[]⟩)), none⟩])
 (.seq
  (.seq
   (.reg [⟨(some 6), .faddr 0 (.t 1), none⟩,
     ⟨(some 7), .load none (.t 6), none⟩])
   (.block 0
    (.seq
     (.reg [⟨(some 9), .bin .int .eql (.t 7) (.c (.int .i64 1)), none⟩,
       ⟨(some 8), .move (.t 9), none⟩])
     (.cond (.t 8)
      (.seq
       (.reg [⟨(some 2), .move (.c (.str ⟨#[73, 110, 116]⟩)), none⟩])
       .ret)
      (.seq
       (.reg [⟨(some 11), .bin .int .eql (.t 7) (.c (.int .i64 3)), none⟩,
         ⟨(some 10), .move (.t 11), none⟩])
       (.cond (.t 10)
        (.seq
         (.reg [⟨(some 12), .load (some 4) (.t 1), none⟩,
           ⟨(some 13), .call 133 [(.t 12)], none⟩,
           ⟨(some 14), .call 132 [(.t 13)], none⟩,
           ⟨(some 15), .bin .str .add (.c (.str ⟨#[45, 62]⟩)) (.t 14), none⟩,
           ⟨(some 2), .move (.t 15), none⟩])
         .ret)
        .skip))))))
  (.seq
   (.draw [] [([⟨(some 16), .faddr 2 (.t 1), none⟩], []),
     ([⟨(some 17), .load none (.t 16), none⟩], []),
     ([⟨(some 18), .len .str (.t 17), none⟩], []),
     ([⟨(some 22), .faddr 2 (.t 1), none⟩], []),
     ([⟨(some 23), .load none (.t 22), none⟩], []),
     ([⟨(some 19), .call 132 [(.t 18)], none⟩], [⟨(some 22), .faddr 2 (.t 1), none⟩, ⟨(some 23), .load none (.t 22), none⟩]),
     ([⟨(some 20), .bin .str .add (.c (.str ⟨#[40]⟩)) (.t 19), none⟩], []),
     ([⟨(some 21), .bin .str .add (.t 20) (.c (.str ⟨#[58]⟩)), none⟩], []),
     ([⟨(some 24), .bin .str .add (.t 21) (.t 23), none⟩], []),
     ([⟨(some 3), .move (.t 24), none⟩], [])])
   (.seq
    (.seq
     (.reg [⟨(some 25), .faddr 2 (.t 1), none⟩,
       ⟨(some 26), .load none (.t 25), none⟩,
       ⟨(some 27), .bin .str .eql (.t 26) (.c (.str ⟨#[73, 110, 116]⟩)), none⟩])
     (.cond (.t 27)
      (.seq
       (.reg [⟨(some 2), .move (.c (.str ⟨#[73, 110, 116]⟩)), none⟩])
       .ret)
      .skip))
    (.seq
     (.seq
      (.reg [⟨(some 28), .faddr 3 (.t 1), none⟩,
        ⟨(some 29), .load none (.t 28), none⟩,
        ⟨(some 30), .len .slice (.t 29), none⟩,
        ⟨(some 31), .move (.c (.int .i64 0)), none⟩])
      (.block 1
       (.loop
        (.seq
         (.reg [⟨(some 32), .bin .int .lss (.t 31) (.t 30), none⟩])
         (.seq
          (.cond (.t 32)
           .skip
           (.exit 1))
          (.seq
           (.block 2
            (.seq
             (.reg [⟨(some 33), .iaddr 4 (.t 29) (.t 31), none⟩,
               ⟨(some 34), .load (some 4) (.t 33), none⟩,
               ⟨(some 5), .new 33 (.c (.agg [(.int .i64 0), (.int .i64 0), (.str ⟨#[]⟩), .nils])), none⟩,
               ⟨none, .store 4 (.t 5) (.t 34), none⟩])
             (.reg [⟨(some 35), .move (.t 3), none⟩,
               ⟨(some 36), .load (some 4) (.t 5), none⟩,
               ⟨(some 37), .call 76 [(.t 36)], none⟩,
               ⟨(some 38), .bin .str .add (.c (.str ⟨#[32]⟩)) (.t 37), none⟩,
               ⟨(some 39), .bin .str .add (.t 35) (.t 38), none⟩,
               ⟨(some 3), .move (.t 39), none⟩])))
           (.reg [⟨(some 40), .bin .int .add (.t 31) (.c (.int .i64 1)), none⟩,
             ⟨(some 31), .move (.t 40), none⟩])))))))
     (.seq
      (.reg [⟨(some 41), .move (.t 3), none⟩,
        ⟨(some 42), .bin .str .add (.t 41) (.c (.str ⟨#[41]⟩)), none⟩,
        ⟨(some 2), .move (.t 42), none⟩])
      .ret))))))
theorem ent76 : EntOK Try.prog 76 ⟨43, v76, [.slot 2]⟩ := fun args σ K ha h =>
  enter (own := List.range 43) Try.func76 (by kernel_rfl) (by kernel_rfl) (by kernel_rfl) ha h
/-- (*changeling/decl.Table).Cons -/
def v77 : ACode :=
(.seq
 (.reg [⟨(some 4), .move (.c .nils), none⟩])
 (.seq
  (.reg [⟨(some 5), .move (.c .nils), none⟩])
  (.seq
   (.seq
    (.reg [⟨(some 8), .move (.t 0), none⟩,
      ⟨(some 9), .call 134 [(.t 8)], none⟩,
      ⟨(some 10), .len .slice (.t 9), none⟩,
      ⟨(some 11), .move (.c (.int .i64 0)), none⟩])
    (.block 0
     (.loop
      (.seq
       (.reg [⟨(some 12), .bin .int .lss (.t 11) (.t 10), none⟩])
       (.seq
        (.cond (.t 12)
         .skip
         (.exit 0))
        (.seq
         (.block 1
          (.seq
           (.reg [⟨(some 13), .iaddr 5 (.t 9) (.t 11), none⟩,
             ⟨(some 14), .load (some 5) (.t 13), none⟩,
             ⟨(some 7), .new 87 (.c (.agg [(.str ⟨#[]⟩), (.str ⟨#[]⟩), (.int .i64 0), (.int .i64 0), .nils])), none⟩,
             ⟨none, .store 5 (.t 7) (.t 14), none⟩])
           (.seq
            (.reg [⟨(some 15), .faddr 1 (.t 7), none⟩,
              ⟨(some 16), .load none (.t 15), none⟩,
              ⟨(some 17), .move (.t 1), none⟩,
              ⟨(some 18), .bin .str .eql (.t 16) (.t 17), none⟩])
            (.cond (.t 18)
             (.reg [⟨(some 19), .move (.t 5), none⟩,
               ⟨(some 20), .load (some 5) (.t 7), none⟩,
               ⟨(some 21), .lit true 87 5 [(.t 20)], none⟩,
               ⟨(some 22), .append 87 5 72 (.t 19) (.t 21), none⟩,
               ⟨(some 5), .move (.t 22), none⟩])
             .skip))))
         (.reg [⟨(some 23), .bin .int .add (.t 11) (.c (.int .i64 1)), none⟩,
           ⟨(some 11), .move (.t 23), none⟩])))))))
   (.seq
    (.reg [⟨(some 24), .move (.t 5), none⟩,
      ⟨(some 4), .move (.t 24), none⟩])
    .ret))))
theorem ent77 : EntOK Try.prog 77 ⟨25, v77, [.slot 4]⟩ := fun args σ K ha h =>
  enter (own := List.range 25) Try.func77 (by kernel_rfl) (by kernel_rfl) (by kernel_rfl) ha h
/-- changeling/values.fields -/
def v78 : ACode :=
(.seq
 (.reg [⟨(some 2), .new 87 (.t 0), none⟩,
   ⟨(some 3), .new 33 (.t 1), none⟩,
   ⟨(some 4), .move (.c .nils), none⟩,
   ⟨(some 5), .move (.c (.bool false)), none⟩])
 (.seq
  (.reg [⟨(some 6), .move (.c .nils), none⟩])
  (.seq
   (.seq
    (.reg [⟨(some 10), .faddr 4 (.t 2), none⟩,
      ⟨(some 11), .load none (.t 10), none⟩,
      ⟨(some 12), .len .slice (.t 11), none⟩,
      ⟨(some 13), .move (.c (.int .i64 0)), none⟩])
    (.block 0
     (.loop
      (.seq
       (.reg [⟨(some 14), .bin .int .lss (.t 13) (.t 12), none⟩])
       (.seq
        (.cond (.t 14)
         .skip
         (.exit 0))
        (.seq
         (.block 1
          (.seq
           (.reg [⟨(some 15), .iaddr 4 (.t 11) (.t 13), none⟩,
             ⟨(some 16), .load (some 4) (.t 15), none⟩,
             ⟨(some 8), .new 33 (.c (.agg [(.int .i64 0), (.int .i64 0), (.str ⟨#[]⟩), .nils])), none⟩,
             ⟨none, .store 4 (.t 8) (.t 16), none⟩])
           (.seq
            (.reg [⟨(some 17), .load (some 4) (.t 8), none⟩,
              ⟨(some 18), .faddr 3 (.t 3), none⟩,
              ⟨(some 19), .load none (.t 18), none⟩,
              ⟨(some 20), .call 135 [(.t 17), (.t 19)], none⟩,
              ⟨(some 9), .new 33 (.c (.agg [(.int .i64 0), (.int .i64 0), (.str ⟨#[]⟩), .nils])), none⟩,
              ⟨none, .store 4 (.t 9) (.t 20), none⟩])
            (.seq
             (.seq
              (.reg [⟨(some 21), .load (some 4) (.t 9), none⟩,
                ⟨(some 22), .call 133 [(.t 21)], none⟩,
                ⟨(some 23), .bin .int .gtr (.t 22) (.c (.int .i64 256)), none⟩])
              (.cond (.t 23)
               (.seq
                (.reg [⟨(some 4), .move (.c .nils), none⟩,
                  ⟨(some 5), .move (.c (.bool false)), none⟩])
                .ret)
               .skip))
             (.reg [⟨(some 24), .move (.t 6), none⟩,
               ⟨(some 25), .load (some 4) (.t 9), none⟩,
               ⟨(some 26), .lit true 33 4 [(.t 25)], none⟩,
               ⟨(some 27), .append 33 4 56 (.t 24) (.t 26), none⟩,
               ⟨(some 6), .move (.t 27), none⟩])))))
         (.reg [⟨(some 28), .bin .int .add (.t 13) (.c (.int .i64 1)), none⟩,
           ⟨(some 13), .move (.t 28), none⟩])))))))
   (.seq
    (.reg [⟨(some 29), .move (.t 6), none⟩,
      ⟨(some 4), .move (.t 29), none⟩,
      ⟨(some 5), .move (.c (.bool true)), none⟩])
    .ret))))
theorem ent78 : EntOK Try.prog 78 ⟨30, v78, [.slot 4, .slot 5]⟩ := fun args σ K ha h =>
  enter (own := List.range 30) Try.func78 (by kernel_rfl) (by kernel_rfl) (by kernel_rfl) ha h
/-- (*changeling/decl.Table).put -/
def v79 : ACode :=
(.seq
 (.reg [⟨(some 3), .new 87 (.t 1), none⟩])
 (.seq
  (.reg [⟨(some 4), .move (.t 0), none⟩,
    ⟨(some 5), .nilck (.t 4), none⟩,
    ⟨(some 6), .faddr 1 (.t 5), none⟩,
    ⟨(some 7), .load none (.t 6), none⟩,
    ⟨(some 8), .faddr 0 (.t 3), none⟩,
    ⟨(some 9), .load none (.t 8), none⟩,
    ⟨(some 10), .load (some 5) (.t 3), none⟩,
    ⟨none, .mapset .str (.t 7) (.t 9) (.t 10), none⟩])
  (.draw [] [([⟨(some 11), .move (.t 0), none⟩], []),
    ([⟨(some 12), .move (.t 0), none⟩], []),
    ([⟨(some 13), .nilck (.t 12), none⟩], []),
    ([⟨(some 14), .faddr 2 (.t 13), none⟩], []),
    ([⟨(some 15), .load none (.t 14), none⟩], []),
    ([⟨(some 16), .faddr 0 (.t 3), none⟩], []),
    ([⟨(some 17), .load none (.t 16), none⟩], []),
    ([⟨(some 18), .lit true 9 1 [(.t 17)], none⟩], [⟨(some 14), .faddr 2 (.t 13), none⟩, ⟨(some 15), .load none (.t 14), none⟩]),
    ([⟨(some 19), .append 9 1 16 (.t 15) (.t 18), none⟩], []),
    ([⟨(some 20), .nilck (.t 11), none⟩], []),
    ([⟨(some 21), .faddr 2 (.t 20), none⟩], []),
    ([⟨none, .store 1 (.t 21) (.t 19), none⟩], [])])))
theorem ent79 : EntOK Try.prog 79 ⟨22, v79, []⟩ := fun args σ K ha h =>
  enter (own := List.range 22) Try.func79 (by kernel_rfl) (by kernel_rfl) (by kernel_rfl) ha h
/-- changeling/decl.place -/
def v80 : ACode :=
(.seq
 (.reg [⟨(some 4), .move (.c (.int .i64 0)), none⟩])
 (.seq
  (.seq
   (.reg [⟨(some 7), .move (.t 0), none⟩,
     ⟨(some 8), .len .slice (.t 7), none⟩,
     ⟨(some 9), .move (.c (.int .i64 0)), none⟩])
   (.block 0
    (.loop
     (.seq
      (.reg [⟨(some 10), .bin .int .lss (.t 9) (.t 8), none⟩])
      (.seq
       (.cond (.t 10)
        .skip
        (.exit 0))
       (.seq
        (.block 1
         (.seq
          (.reg [⟨(some 11), .move (.t 9), none⟩,
            ⟨(some 12), .iaddr 1 (.t 7) (.t 9), none⟩,
            ⟨(some 13), .load none (.t 12), none⟩,
            ⟨(some 5), .move (.t 11), none⟩,
            ⟨(some 6), .move (.t 13), none⟩])
          (.seq
           (.reg [⟨(some 14), .move (.t 6), none⟩,
             ⟨(some 15), .move (.t 1), none⟩,
             ⟨(some 16), .bin .str .eql (.t 14) (.t 15), none⟩])
           (.cond (.t 16)
            (.seq
             (.reg [⟨(some 17), .move (.t 5), none⟩,
               ⟨(some 4), .move (.t 17), none⟩])
             .ret)
            .skip))))
        (.reg [⟨(some 18), .bin .int .add (.t 9) (.c (.int .i64 1)), none⟩,
          ⟨(some 9), .move (.t 18), none⟩])))))))
  (.seq
   (.reg [⟨(some 4), .move (.c (.int .i64 (-1))), none⟩])
   .ret)))
theorem ent80 : EntOK Try.prog 80 ⟨19, v80, [.slot 4]⟩ := fun args σ K ha h =>
  enter (own := List.range 19) Try.func80 (by kernel_rfl) (by kernel_rfl) (by kernel_rfl) ha h
/-- (*changeling/decl.Table).field -/
def v81 : ACode :=
(.seq
 (.reg [⟨(some 5), .new 33 (.t 2), none⟩,
   ⟨(some 6), .new 33 (.c (.agg [(.int .i64 0), (.int .i64 0), (.str ⟨#[]⟩), .nils])), none⟩,
   ⟨(some 7), .move (.c (.int .i64 0)), none⟩])
 (.seq
  (.seq
   (.reg [⟨(some 16), .faddr 0 (.t 5), none⟩,
     ⟨(some 17), .load none (.t 16), none⟩])
   (.block 0
    (.seq
     (.reg [⟨(some 20), .bin .int .eql (.t 17) (.c (.int .i64 1)), none⟩,
       ⟨(some 19), .move (.t 20), none⟩])
     (.cond (.t 19)
      (.seq
       (.reg [⟨(some 21), .move (.t 1), none⟩,
         ⟨(some 22), .faddr 2 (.t 5), none⟩,
         ⟨(some 23), .load none (.t 22), none⟩,
         ⟨(some 24), .call 80 [(.t 21), (.t 23)], none⟩,
         ⟨(some 8), .move (.t 24), none⟩])
       (.seq
        (.seq
         (.reg [⟨(some 25), .move (.t 8), none⟩,
           ⟨(some 26), .bin .int .lss (.t 25) (.c (.int .i64 0)), none⟩])
         (.cond (.t 26)
          (.seq
           (.reg [⟨(some 27), .load (some 4) (.t 5), none⟩,
             ⟨none, .store 4 (.t 6) (.t 27), none⟩,
             ⟨(some 7), .move (.c (.int .i64 81)), none⟩])
           .ret)
          .skip))
        (.seq
         (.reg [⟨(some 28), .move (.t 8), none⟩,
           ⟨(some 29), .build [(.int .i64 0), (.int .i64 0), (.str ⟨#[]⟩), .nils] [(0, 1, (.c (.int .i64 1))), (1, 1, (.t 28))], none⟩,
           ⟨none, .store 4 (.t 6) (.t 29), none⟩,
           ⟨(some 7), .move (.c (.int .i64 0)), none⟩])
         .ret)))
      (.seq
       (.reg [⟨(some 31), .bin .int .eql (.t 17) (.c (.int .i64 2)), none⟩,
         ⟨(some 30), .move (.t 31), none⟩])
       (.cond (.t 30)
        (.seq
         (.reg [⟨(some 33), .move (.t 0), none⟩,
           ⟨(some 34), .nilck (.t 33), none⟩,
           ⟨(some 35), .faddr 0 (.t 34), none⟩,
           ⟨(some 36), .load none (.t 35), none⟩,
           ⟨(some 37), .faddr 2 (.t 5), none⟩,
           ⟨(some 38), .load none (.t 37), none⟩,
           ⟨(some 39), .lookup .str (.int .i64 0) true (.t 36) (.t 38), none⟩,
           ⟨(some 32), .move (.t 39), none⟩,
           ⟨(some 40), .extract (.t 32) 0, none⟩,
           ⟨(some 41), .extract (.t 32) 1, none⟩,
           ⟨(some 9), .move (.t 40), none⟩,
           ⟨(some 10), .move (.t 41), none⟩])
         (.seq
          (.seq
           (.reg [⟨(some 42), .move (.t 10), none⟩,
             ⟨(some 43), .not (.t 42), none⟩])
           (.cond (.t 43)
            (.seq
             (.reg [⟨(some 44), .load (some 4) (.t 5), none⟩,
               ⟨none, .store 4 (.t 6) (.t 44), none⟩,
               ⟨(some 7), .move (.c (.int .i64 81)), none⟩])
             .ret)
            .skip))
          (.seq
           (.reg [⟨(some 45), .move (.t 9), none⟩,
             ⟨(some 46), .faddr 3 (.t 5), none⟩,
             ⟨(some 47), .load none (.t 46), none⟩,
             ⟨(some 48), .len .slice (.t 47), none⟩,
             ⟨(some 49), .bin .int .neq (.t 45) (.t 48), none⟩])
           (.cond (.t 49)
            (.seq
             (.reg [⟨(some 50), .load (some 4) (.t 5), none⟩,
               ⟨none, .store 4 (.t 6) (.t 50), none⟩,
               ⟨(some 7), .move (.c (.int .i64 82)), none⟩])
             .ret)
            .skip))))
        (.seq
         (.reg [⟨(some 52), .bin .int .eql (.t 17) (.c (.int .i64 3)), none⟩,
           ⟨(some 51), .move (.t 52), none⟩])
         (.cond (.t 51)
          (.seq
           (.reg [⟨(some 53), .faddr 3 (.t 5), none⟩,
             ⟨(some 54), .load none (.t 53), none⟩,
             ⟨(some 55), .len .slice (.t 54), none⟩,
             ⟨(some 56), .bin .int .neq (.t 55) (.c (.int .i64 2)), none⟩])
           (.cond (.t 56)
            (.seq
             (.reg [⟨(some 57), .load (some 4) (.t 5), none⟩,
               ⟨none, .store 4 (.t 6) (.t 57), none⟩,
               ⟨(some 7), .move (.c (.int .i64 82)), none⟩])
             .ret)
            .skip))
          (.seq
           (.reg [⟨(some 18), .load (some 4) (.t 5), none⟩,
             ⟨none, .store 4 (.t 6) (.t 18), none⟩,
             ⟨(some 7), .move (.c (.int .i64 82)), none⟩])
           .ret)))))))))
  (.seq
   (.reg [⟨(some 58), .faddr 0 (.t 5), none⟩,
     ⟨(some 59), .load none (.t 58), none⟩,
     ⟨(some 60), .build [(.int .i64 0), (.int .i64 0), (.str ⟨#[]⟩), .nils] [(0, 1, (.t 59))], none⟩,
     ⟨(some 11), .new 33 (.c (.agg [(.int .i64 0), (.int .i64 0), (.str ⟨#[]⟩), .nils])), none⟩,
     ⟨none, .store 4 (.t 11) (.t 60), none⟩])
   (.seq
    (.seq
     (.reg [⟨(some 61), .faddr 0 (.t 5), none⟩,
       ⟨(some 62), .load none (.t 61), none⟩,
       ⟨(some 63), .bin .int .eql (.t 62) (.c (.int .i64 2)), none⟩])
     (.cond (.t 63)
      (.reg [⟨(some 64), .faddr 2 (.t 5), none⟩,
        ⟨(some 65), .load none (.t 64), none⟩,
        ⟨(some 66), .faddr 2 (.t 11), none⟩,
        ⟨none, .store 1 (.t 66) (.t 65), none⟩])
      .skip))
    (.seq
     (.seq
      (.reg [⟨(some 67), .faddr 3 (.t 5), none⟩,
        ⟨(some 68), .load none (.t 67), none⟩,
        ⟨(some 69), .len .slice (.t 68), none⟩,
        ⟨(some 70), .move (.c (.int .i64 0)), none⟩])
      (.block 1
       (.loop
        (.seq
         (.reg [⟨(some 71), .bin .int .lss (.t 70) (.t 69), none⟩])
         (.seq
          (.cond (.t 71)
           .skip
           (.exit 1))
          (.seq
           (.block 2
            (.seq
             (.reg [⟨(some 72), .iaddr 4 (.t 68) (.t 70), none⟩,
               ⟨(some 73), .load (some 4) (.t 72), none⟩,
               ⟨(some 13), .new 33 (.c (.agg [(.int .i64 0), (.int .i64 0), (.str ⟨#[]⟩), .nils])), none⟩,
               ⟨none, .store 4 (.t 13) (.t 73), none⟩])
             (.seq
              (.reg [⟨(some 75), .move (.t 0), none⟩,
                ⟨(some 76), .move (.t 1), none⟩,
                ⟨(some 77), .load (some 4) (.t 13), none⟩,
                ⟨(some 78), .call 81 [(.t 75), (.t 76), (.t 77)], none⟩,
                ⟨(some 74), .move (.t 78), none⟩,
                ⟨(some 79), .extract (.t 74) 0, none⟩,
                ⟨(some 80), .extract (.t 74) 1, none⟩,
                ⟨(some 14), .new 33 (.c (.agg [(.int .i64 0), (.int .i64 0), (.str ⟨#[]⟩), .nils])), none⟩,
                ⟨none, .store 4 (.t 14) (.t 79), none⟩,
                ⟨(some 15), .move (.t 80), none⟩])
              (.seq
               (.seq
                (.reg [⟨(some 81), .move (.t 15), none⟩,
                  ⟨(some 82), .bin .int .neq (.t 81) (.c (.int .i64 0)), none⟩])
                (.cond (.t 82)
                 (.seq
                  (.reg [⟨(some 83), .load (some 4) (.t 5), none⟩,
                    ⟨(some 84), .move (.t 15), none⟩,
                    ⟨none, .store 4 (.t 6) (.t 83), none⟩,
                    ⟨(some 7), .move (.t 84), none⟩])
                  .ret)
                 .skip))
               (.reg [⟨(some 85), .faddr 3 (.t 11), none⟩,
                 ⟨(some 86), .load none (.t 85), none⟩,
                 ⟨(some 87), .load (some 4) (.t 14), none⟩,
                 ⟨(some 88), .lit true 33 4 [(.t 87)], none⟩,
                 ⟨(some 89), .append 33 4 56 (.t 86) (.t 88), none⟩,
                 ⟨(some 90), .faddr 3 (.t 11), none⟩,
                 ⟨none, .store 1 (.t 90) (.t 89), none⟩])))))
           (.reg [⟨(some 91), .bin .int .add (.t 70) (.c (.int .i64 1)), none⟩,
             ⟨(some 70), .move (.t 91), none⟩])))))))
     (.seq
      (.reg [⟨(some 92), .load (some 4) (.t 11), none⟩,
        ⟨none, .store 4 (.t 6) (.t 92), none⟩,
        ⟨(some 7), .move (.c (.int .i64 0)), none⟩])
      .ret))))))
theorem ent81 : EntOK Try.prog 81 ⟨93, v81, [.cell 6 (some 4), .slot 7]⟩ := fun args σ K ha h =>
  enter (own := List.range 93) Try.func81 (by kernel_rfl) (by kernel_rfl) (by kernel_rfl) ha h
/-- (*changeling/decl.Table).Data -/
def v131 : ACode :=
(.seq
 (.reg [⟨(some 4), .move (.c (.int .i64 0)), none⟩,
   ⟨(some 5), .move (.c (.bool false)), none⟩])
 (.seq
  (.seq
   (.reg [⟨(some 8), .move (.t 0), none⟩,
     ⟨(some 9), .nileq .ptr false (.t 8) (.c .nilp), none⟩])
   (.cond (.t 9)
    (.seq
     (.reg [⟨(some 4), .move (.c (.int .i64 0)), none⟩,
       ⟨(some 5), .move (.c (.bool false)), none⟩])
     .ret)
    .skip))
  (.seq
   (.reg [⟨(some 11), .move (.t 0), none⟩,
     ⟨(some 12), .nilck (.t 11), none⟩,
     ⟨(some 13), .faddr 0 (.t 12), none⟩,
     ⟨(some 14), .load none (.t 13), none⟩,
     ⟨(some 15), .move (.t 1), none⟩,
     ⟨(some 16), .lookup .str (.int .i64 0) true (.t 14) (.t 15), none⟩,
     ⟨(some 10), .move (.t 16), none⟩,
     ⟨(some 17), .extract (.t 10) 0, none⟩,
     ⟨(some 18), .extract (.t 10) 1, none⟩,
     ⟨(some 6), .move (.t 17), none⟩,
     ⟨(some 7), .move (.t 18), none⟩])
   (.seq
    (.reg [⟨(some 19), .move (.t 6), none⟩,
      ⟨(some 20), .move (.t 7), none⟩,
      ⟨(some 4), .move (.t 19), none⟩,
      ⟨(some 5), .move (.t 20), none⟩])
    .ret))))
theorem ent131 : EntOK Try.prog 131 ⟨21, v131, [.slot 4, .slot 5]⟩ := fun args σ K ha h =>
  enter (own := List.range 21) Try.func131 (by kernel_rfl) (by kernel_rfl) (by kernel_rfl) ha h
/-- changeling/num.Text -/
def v132 : ACode :=
(.seq
 (.reg [⟨(some 2), .move (.c (.str ⟨#[]⟩)), none⟩])
 (.seq
  (.reg [⟨(some 7), .move (.t 0), none⟩,
    ⟨(some 8), .conv .u64 (.t 7), none⟩,
    ⟨(some 3), .move (.t 8), none⟩])
  (.seq
   (.seq
    (.reg [⟨(some 9), .move (.t 0), none⟩,
      ⟨(some 10), .bin .int .lss (.t 9) (.c (.int .i64 0)), none⟩])
    (.cond (.t 10)
     (.reg [⟨(some 11), .move (.t 3), none⟩,
       ⟨(some 12), .neg (.t 11), none⟩,
       ⟨(some 3), .move (.t 12), none⟩])
     .skip))
   (.seq
    (.reg [⟨(some 4), .move (.c .nils), none⟩])
    (.seq
     (.block 0
      (.loop
       (.seq
        (.seq
         (.reg [⟨(some 13), .move (.t 3), none⟩,
           ⟨(some 14), .bin .int .gtr (.t 13) (.c (.int .u64 0)), none⟩,
           ⟨(some 15), .move (.t 14), none⟩,
           ⟨(some 16), .move (.t 4), some (15, false)⟩,
           ⟨(some 17), .len .slice (.t 16), some (15, false)⟩,
           ⟨(some 18), .bin .int .eql (.t 17) (.c (.int .i64 0)), some (15, false)⟩,
           ⟨(some 19), .pick (.t 15) (.c (.bool true)) (.t 18), none⟩])
         (.cond (.t 19)
          .skip
          (.exit 0)))
        (.block 1
         (.seq
          (.reg [⟨(some 20), .move (.t 4), none⟩,
            ⟨(some 21), .move (.t 3), none⟩,
            ⟨(some 22), .bin .int .rem (.t 21) (.c (.int .u64 10)), none⟩,
            ⟨(some 23), .bin .int .add (.c (.int .u64 48)) (.t 22), none⟩,
            ⟨(some 24), .conv .u8 (.t 23), none⟩,
            ⟨(some 25), .lit true 5 1 [(.t 24)], none⟩,
            ⟨(some 26), .append 5 1 1 (.t 20) (.t 25), none⟩,
            ⟨(some 4), .move (.t 26), none⟩])
          (.reg [⟨(some 27), .move (.t 3), none⟩,
            ⟨(some 28), .bin .int .quo (.t 27) (.c (.int .u64 10)), none⟩,
            ⟨(some 3), .move (.t 28), none⟩]))))))
     (.seq
      (.seq
       (.reg [⟨(some 29), .move (.t 0), none⟩,
         ⟨(some 30), .bin .int .lss (.t 29) (.c (.int .i64 0)), none⟩])
       (.cond (.t 30)
        (.reg [⟨(some 31), .move (.t 4), none⟩,
          ⟨(some 32), .lit true 5 1 [(.c (.int .u8 45))], none⟩,
          ⟨(some 33), .append 5 1 1 (.t 31) (.t 32), none⟩,
          ⟨(some 4), .move (.t 33), none⟩])
        .skip))
      (.seq
       (.seq
        (.reg [⟨(some 34), .move (.t 4), none⟩,
          ⟨(some 35), .len .slice (.t 34), none⟩,
          ⟨(some 36), .bin .int .sub (.t 35) (.c (.int .i64 1)), none⟩,
          ⟨(some 5), .move (.c (.int .i64 0)), none⟩,
          ⟨(some 6), .move (.t 36), none⟩])
        (.block 2
         (.loop
          (.seq
           (.seq
            (.reg [⟨(some 37), .move (.t 5), none⟩,
              ⟨(some 38), .move (.t 6), none⟩,
              ⟨(some 39), .bin .int .lss (.t 37) (.t 38), none⟩])
            (.cond (.t 39)
             .skip
             (.exit 2)))
           (.seq
            (.block 3
             (.reg [⟨(some 44), .move (.t 4), none⟩,
               ⟨(some 45), .move (.t 5), none⟩,
               ⟨(some 46), .move (.t 4), none⟩,
               ⟨(some 47), .move (.t 6), none⟩,
               ⟨(some 48), .move (.t 4), none⟩,
               ⟨(some 49), .move (.t 6), none⟩,
               ⟨(some 50), .iaddr 1 (.t 48) (.t 49), none⟩,
               ⟨(some 51), .load none (.t 50), none⟩,
               ⟨(some 52), .move (.t 4), none⟩,
               ⟨(some 53), .move (.t 5), none⟩,
               ⟨(some 54), .iaddr 1 (.t 52) (.t 53), none⟩,
               ⟨(some 55), .load none (.t 54), none⟩,
               ⟨(some 56), .iaddr 1 (.t 44) (.t 45), none⟩,
               ⟨none, .store 1 (.t 56) (.t 51), none⟩,
               ⟨(some 57), .iaddr 1 (.t 46) (.t 47), none⟩,
               ⟨none, .store 1 (.t 57) (.t 55), none⟩]))
            (.reg [⟨(some 40), .move (.t 5), none⟩,
              ⟨(some 41), .bin .int .add (.t 40) (.c (.int .i64 1)), none⟩,
              ⟨(some 42), .move (.t 6), none⟩,
              ⟨(some 43), .bin .int .sub (.t 42) (.c (.int .i64 1)), none⟩,
              ⟨(some 5), .move (.t 41), none⟩,
              ⟨(some 6), .move (.t 43), none⟩]))))))
       (.seq
        (.reg [⟨(some 58), .move (.t 4), none⟩,
          ⟨(some 59), .bstr (.t 58), none⟩,
          ⟨(some 2), .move (.t 59), none⟩])
        .ret))))))))
theorem ent132 : EntOK Try.prog 132 ⟨60, v132, [.slot 2]⟩ := fun args σ K ha h =>
  enter (own := List.range 60) Try.func132 (by kernel_rfl) (by kernel_rfl) (by kernel_rfl) ha h
/-- changeling/values.parts -/
def v133 : ACode :=
(.seq
 (.reg [⟨(some 1), .new 33 (.t 0), none⟩,
   ⟨(some 2), .move (.c (.int .i64 0)), none⟩])
 (.seq
  (.reg [⟨(some 3), .move (.c (.int .i64 1)), none⟩])
  (.seq
   (.seq
    (.reg [⟨(some 6), .faddr 3 (.t 1), none⟩,
      ⟨(some 7), .load none (.t 6), none⟩,
      ⟨(some 8), .len .slice (.t 7), none⟩,
      ⟨(some 9), .move (.c (.int .i64 0)), none⟩])
    (.block 0
     (.loop
      (.seq
       (.reg [⟨(some 10), .bin .int .lss (.t 9) (.t 8), none⟩])
       (.seq
        (.cond (.t 10)
         .skip
         (.exit 0))
        (.seq
         (.block 1
          (.seq
           (.reg [⟨(some 11), .iaddr 4 (.t 7) (.t 9), none⟩,
             ⟨(some 12), .load (some 4) (.t 11), none⟩,
             ⟨(some 5), .new 33 (.c (.agg [(.int .i64 0), (.int .i64 0), (.str ⟨#[]⟩), .nils])), none⟩,
             ⟨none, .store 4 (.t 5) (.t 12), none⟩])
           (.reg [⟨(some 13), .move (.t 3), none⟩,
             ⟨(some 14), .load (some 4) (.t 5), none⟩,
             ⟨(some 15), .call 133 [(.t 14)], none⟩,
             ⟨(some 16), .bin .int .add (.t 13) (.t 15), none⟩,
             ⟨(some 3), .move (.t 16), none⟩])))
         (.reg [⟨(some 17), .bin .int .add (.t 9) (.c (.int .i64 1)), none⟩,
           ⟨(some 9), .move (.t 17), none⟩])))))))
   (.seq
    (.reg [⟨(some 18), .move (.t 3), none⟩,
      ⟨(some 2), .move (.t 18), none⟩])
    .ret))))
theorem ent133 : EntOK Try.prog 133 ⟨19, v133, [.slot 2]⟩ := fun args σ K ha h =>
  enter (own := List.range 19) Try.func133 (by kernel_rfl) (by kernel_rfl) (by kernel_rfl) ha h
/-- (*changeling/decl.Table).All -/
def v134 : ACode :=
(.seq
 (.reg [⟨(some 2), .move (.c .nils), none⟩])
 (.seq
  (.reg [⟨(some 3), .move (.c .nils), none⟩])
  (.seq
   (.seq
    (.reg [⟨(some 8), .move (.t 0), none⟩,
      ⟨(some 9), .nileq .ptr false (.t 8) (.c .nilp), none⟩])
    (.cond (.t 9)
     (.seq
      (.reg [⟨(some 10), .move (.t 3), none⟩,
        ⟨(some 2), .move (.t 10), none⟩])
      .ret)
     .skip))
   (.seq
    (.seq
     (.reg [⟨(some 11), .move (.t 0), none⟩,
       ⟨(some 12), .nilck (.t 11), none⟩,
       ⟨(some 13), .faddr 2 (.t 12), none⟩,
       ⟨(some 14), .load none (.t 13), none⟩,
       ⟨(some 15), .len .slice (.t 14), none⟩,
       ⟨(some 16), .move (.c (.int .i64 0)), none⟩])
     (.block 0
      (.loop
       (.seq
        (.reg [⟨(some 17), .bin .int .lss (.t 16) (.t 15), none⟩])
        (.seq
         (.cond (.t 17)
          .skip
          (.exit 0))
         (.seq
          (.block 1
           (.seq
            (.reg [⟨(some 18), .iaddr 1 (.t 14) (.t 16), none⟩,
              ⟨(some 19), .load none (.t 18), none⟩,
              ⟨(some 5), .move (.t 19), none⟩])
            (.seq
             (.reg [⟨(some 21), .move (.t 0), none⟩,
               ⟨(some 22), .move (.t 5), none⟩,
               ⟨(some 23), .call 157 [(.t 21), (.t 22)], none⟩,
               ⟨(some 20), .move (.t 23), none⟩,
               ⟨(some 24), .extract (.t 20) 0, none⟩,
               ⟨(some 25), .extract (.t 20) 1, none⟩,
               ⟨(some 6), .new 87 (.c (.agg [(.str ⟨#[]⟩), (.str ⟨#[]⟩), (.int .i64 0), (.int .i64 0), .nils])), none⟩,
               ⟨none, .store 5 (.t 6) (.t 24), none⟩,
               ⟨(some 7), .move (.t 25), none⟩])
             (.reg [⟨(some 26), .move (.t 3), none⟩,
               ⟨(some 27), .load (some 5) (.t 6), none⟩,
               ⟨(some 28), .lit true 87 5 [(.t 27)], none⟩,
               ⟨(some 29), .append 87 5 72 (.t 26) (.t 28), none⟩,
               ⟨(some 3), .move (.t 29), none⟩]))))
          (.reg [⟨(some 30), .bin .int .add (.t 16) (.c (.int .i64 1)), none⟩,
            ⟨(some 16), .move (.t 30), none⟩])))))))
    (.seq
     (.reg [⟨(some 31), .move (.t 3), none⟩,
       ⟨(some 2), .move (.t 31), none⟩])
     .ret)))))
theorem ent134 : EntOK Try.prog 134 ⟨32, v134, [.slot 2]⟩ := fun args σ K ha h =>
  enter (own := List.range 32) Try.func134 (by kernel_rfl) (by kernel_rfl) (by kernel_rfl) ha h
/-- changeling/values.put -/
def v135 : ACode :=
(.seq
 (.reg [⟨(some 2), .new 33 (.t 0), none⟩,
   ⟨(some 4), .new 33 (.c (.agg [(.int .i64 0), (.int .i64 0), (.str ⟨#[]⟩), .nils])), none⟩])
 (.seq
  (.seq
   (.reg [⟨(some 8), .faddr 0 (.t 2), none⟩,
     ⟨(some 9), .load none (.t 8), none⟩,
     ⟨(some 10), .bin .int .eql (.t 9) (.c (.int .i64 1)), none⟩])
   (.cond (.t 10)
    (.seq
     (.reg [⟨(some 11), .move (.t 1), none⟩,
       ⟨(some 12), .faddr 1 (.t 2), none⟩,
       ⟨(some 13), .load none (.t 12), none⟩,
       ⟨(some 14), .iaddr 4 (.t 11) (.t 13), none⟩,
       ⟨(some 15), .load (some 4) (.t 14), none⟩,
       ⟨none, .store 4 (.t 4) (.t 15), none⟩])
     .ret)
    .skip))
  (.seq
   (.reg [⟨(some 16), .faddr 0 (.t 2), none⟩,
     ⟨(some 17), .load none (.t 16), none⟩,
     ⟨(some 18), .faddr 2 (.t 2), none⟩,
     ⟨(some 19), .load none (.t 18), none⟩,
     ⟨(some 20), .build [(.int .i64 0), (.int .i64 0), (.str ⟨#[]⟩), .nils] [(0, 1, (.t 17)), (2, 1, (.t 19))], none⟩,
     ⟨(some 5), .new 33 (.c (.agg [(.int .i64 0), (.int .i64 0), (.str ⟨#[]⟩), .nils])), none⟩,
     ⟨none, .store 4 (.t 5) (.t 20), none⟩])
   (.seq
    (.seq
     (.reg [⟨(some 21), .faddr 3 (.t 2), none⟩,
       ⟨(some 22), .load none (.t 21), none⟩,
       ⟨(some 23), .len .slice (.t 22), none⟩,
       ⟨(some 24), .move (.c (.int .i64 0)), none⟩])
     (.block 0
      (.loop
       (.seq
        (.reg [⟨(some 25), .bin .int .lss (.t 24) (.t 23), none⟩])
        (.seq
         (.cond (.t 25)
          .skip
          (.exit 0))
         (.seq
          (.block 1
           (.seq
            (.reg [⟨(some 26), .iaddr 4 (.t 22) (.t 24), none⟩,
              ⟨(some 27), .load (some 4) (.t 26), none⟩,
              ⟨(some 7), .new 33 (.c (.agg [(.int .i64 0), (.int .i64 0), (.str ⟨#[]⟩), .nils])), none⟩,
              ⟨none, .store 4 (.t 7) (.t 27), none⟩])
            (.draw [] [([⟨(some 28), .faddr 3 (.t 5), none⟩], []),
              ([⟨(some 29), .load none (.t 28), none⟩], []),
              ([⟨(some 30), .load (some 4) (.t 7), none⟩], []),
              ([⟨(some 31), .move (.t 1), none⟩], []),
              ([⟨(some 32), .call 135 [(.t 30), (.t 31)], none⟩], [⟨(some 28), .faddr 3 (.t 5), none⟩, ⟨(some 29), .load none (.t 28), none⟩]),
              ([⟨(some 33), .lit true 33 4 [(.t 32)], none⟩], [⟨(some 28), .faddr 3 (.t 5), none⟩, ⟨(some 29), .load none (.t 28), none⟩]),
              ([⟨(some 34), .append 33 4 56 (.t 29) (.t 33), none⟩], []),
              ([⟨(some 35), .faddr 3 (.t 5), none⟩], []),
              ([⟨none, .store 1 (.t 35) (.t 34), none⟩], [])])))
          (.reg [⟨(some 36), .bin .int .add (.t 24) (.c (.int .i64 1)), none⟩,
            ⟨(some 24), .move (.t 36), none⟩])))))))
    (.seq
     (.reg [⟨(some 37), .load (some 4) (.t 5), none⟩,
       ⟨none, .store 4 (.t 4) (.t 37), none⟩])
     .ret)))))
theorem ent135 : EntOK Try.prog 135 ⟨38, v135, [.cell 4 (some 4)]⟩ := fun args σ K ha h =>
  enter (own := List.range 38) Try.func135 (by kernel_rfl) (by kernel_rfl) (by kernel_rfl) ha h
/-- (*changeling/decl.Table).Con -/
def v157 : ACode :=
(.seq
 (.reg [⟨(some 4), .new 87 (.c (.agg [(.str ⟨#[]⟩), (.str ⟨#[]⟩), (.int .i64 0), (.int .i64 0), .nils])), none⟩,
   ⟨(some 5), .move (.c (.bool false)), none⟩])
 (.seq
  (.seq
   (.reg [⟨(some 11), .move (.t 0), none⟩,
     ⟨(some 12), .nileq .ptr false (.t 11) (.c .nilp), none⟩])
   (.cond (.t 12)
    (.seq
     (.reg [⟨(some 13), .build [(.str ⟨#[]⟩), (.str ⟨#[]⟩), (.int .i64 0), (.int .i64 0), .nils] [], none⟩,
       ⟨none, .store 5 (.t 4) (.t 13), none⟩,
       ⟨(some 5), .move (.c (.bool false)), none⟩])
     .ret)
    .skip))
  (.seq
   (.reg [⟨(some 15), .move (.t 0), none⟩,
     ⟨(some 16), .nilck (.t 15), none⟩,
     ⟨(some 17), .faddr 1 (.t 16), none⟩,
     ⟨(some 18), .load none (.t 17), none⟩,
     ⟨(some 19), .move (.t 1), none⟩,
     ⟨(some 20), .lookup .str (.agg [(.str ⟨#[]⟩), (.str ⟨#[]⟩), (.int .i64 0), (.int .i64 0), .nils]) true (.t 18) (.t 19), none⟩,
     ⟨(some 14), .move (.t 20), none⟩,
     ⟨(some 21), .extract (.t 14) 0, none⟩,
     ⟨(some 22), .extract (.t 14) 1, none⟩,
     ⟨(some 6), .new 87 (.c (.agg [(.str ⟨#[]⟩), (.str ⟨#[]⟩), (.int .i64 0), (.int .i64 0), .nils])), none⟩,
     ⟨none, .store 5 (.t 6) (.t 21), none⟩,
     ⟨(some 7), .move (.t 22), none⟩])
   (.seq
    (.seq
     (.reg [⟨(some 23), .move (.t 7), none⟩,
       ⟨(some 24), .not (.t 23), none⟩])
     (.cond (.t 24)
      (.seq
       (.reg [⟨(some 25), .build [(.str ⟨#[]⟩), (.str ⟨#[]⟩), (.int .i64 0), (.int .i64 0), .nils] [], none⟩,
         ⟨none, .store 5 (.t 4) (.t 25), none⟩,
         ⟨(some 5), .move (.c (.bool false)), none⟩])
       .ret)
      .skip))
    (.seq
     (.reg [⟨(some 8), .move (.c .nils), none⟩])
     (.seq
      (.seq
       (.reg [⟨(some 26), .faddr 4 (.t 6), none⟩,
         ⟨(some 27), .load none (.t 26), none⟩,
         ⟨(some 28), .len .slice (.t 27), none⟩,
         ⟨(some 29), .move (.c (.int .i64 0)), none⟩])
       (.block 0
        (.loop
         (.seq
          (.reg [⟨(some 30), .bin .int .lss (.t 29) (.t 28), none⟩])
          (.seq
           (.cond (.t 30)
            .skip
            (.exit 0))
           (.seq
            (.block 1
             (.seq
              (.reg [⟨(some 31), .iaddr 4 (.t 27) (.t 29), none⟩,
                ⟨(some 32), .load (some 4) (.t 31), none⟩,
                ⟨(some 10), .new 33 (.c (.agg [(.int .i64 0), (.int .i64 0), (.str ⟨#[]⟩), .nils])), none⟩,
                ⟨none, .store 4 (.t 10) (.t 32), none⟩])
              (.reg [⟨(some 33), .move (.t 8), none⟩,
                ⟨(some 34), .load (some 4) (.t 10), none⟩,
                ⟨(some 35), .call 170 [(.t 34)], none⟩,
                ⟨(some 36), .lit true 33 4 [(.t 35)], none⟩,
                ⟨(some 37), .append 33 4 56 (.t 33) (.t 36), none⟩,
                ⟨(some 8), .move (.t 37), none⟩])))
            (.reg [⟨(some 38), .bin .int .add (.t 29) (.c (.int .i64 1)), none⟩,
              ⟨(some 29), .move (.t 38), none⟩])))))))
      (.seq
       (.reg [⟨(some 39), .move (.t 8), none⟩,
         ⟨(some 40), .faddr 4 (.t 6), none⟩,
         ⟨none, .store 1 (.t 40) (.t 39), none⟩])
       (.seq
        (.reg [⟨(some 41), .load (some 5) (.t 6), none⟩,
          ⟨none, .store 5 (.t 4) (.t 41), none⟩,
          ⟨(some 5), .move (.c (.bool true)), none⟩])
        .ret))))))))
theorem ent157 : EntOK Try.prog 157 ⟨42, v157, [.cell 4 (some 5), .slot 5]⟩ := fun args σ K ha h =>
  enter (own := List.range 42) Try.func157 (by kernel_rfl) (by kernel_rfl) (by kernel_rfl) ha h
/-- changeling/decl.copied -/
def v170 : ACode :=
(.seq
 (.reg [⟨(some 1), .new 33 (.t 0), none⟩,
   ⟨(some 2), .new 33 (.c (.agg [(.int .i64 0), (.int .i64 0), (.str ⟨#[]⟩), .nils])), none⟩])
 (.seq
  (.reg [⟨(some 3), .move (.c .nils), none⟩])
  (.seq
   (.seq
    (.reg [⟨(some 6), .faddr 3 (.t 1), none⟩,
      ⟨(some 7), .load none (.t 6), none⟩,
      ⟨(some 8), .len .slice (.t 7), none⟩,
      ⟨(some 9), .move (.c (.int .i64 0)), none⟩])
    (.block 0
     (.loop
      (.seq
       (.reg [⟨(some 10), .bin .int .lss (.t 9) (.t 8), none⟩])
       (.seq
        (.cond (.t 10)
         .skip
         (.exit 0))
        (.seq
         (.block 1
          (.seq
           (.reg [⟨(some 11), .iaddr 4 (.t 7) (.t 9), none⟩,
             ⟨(some 12), .load (some 4) (.t 11), none⟩,
             ⟨(some 5), .new 33 (.c (.agg [(.int .i64 0), (.int .i64 0), (.str ⟨#[]⟩), .nils])), none⟩,
             ⟨none, .store 4 (.t 5) (.t 12), none⟩])
           (.reg [⟨(some 13), .move (.t 3), none⟩,
             ⟨(some 14), .load (some 4) (.t 5), none⟩,
             ⟨(some 15), .call 170 [(.t 14)], none⟩,
             ⟨(some 16), .lit true 33 4 [(.t 15)], none⟩,
             ⟨(some 17), .append 33 4 56 (.t 13) (.t 16), none⟩,
             ⟨(some 3), .move (.t 17), none⟩])))
         (.reg [⟨(some 18), .bin .int .add (.t 9) (.c (.int .i64 1)), none⟩,
           ⟨(some 9), .move (.t 18), none⟩])))))))
   (.seq
    (.reg [⟨(some 19), .move (.t 3), none⟩,
      ⟨(some 20), .faddr 3 (.t 1), none⟩,
      ⟨none, .store 1 (.t 20) (.t 19), none⟩])
    (.seq
     (.reg [⟨(some 21), .load (some 4) (.t 1), none⟩,
       ⟨none, .store 4 (.t 2) (.t 21), none⟩])
     .ret)))))
theorem ent170 : EntOK Try.prog 170 ⟨22, v170, [.cell 2 (some 4)]⟩ := fun args σ K ha h =>
  enter (own := List.range 22) Try.func170 (by kernel_rfl) (by kernel_rfl) (by kernel_rfl) ha h
noncomputable def tabL : List (Nat × FEnt) := [(3, ⟨104, v3, [.slot 4]⟩),
  (9, ⟨63, v9, [.slot 6, .slot 7]⟩),
  (10, ⟨24, v10, [.slot 6, .slot 7]⟩),
  (11, ⟨30, v11, [.slot 6, .slot 7]⟩),
  (12, ⟨5, v12, [.cell 2 (some 4)]⟩),
  (13, ⟨59, v13, [.slot 2, .cell 3 (some 3)]⟩),
  (14, ⟨27, v14, [.slot 4]⟩),
  (15, ⟨78, v15, [.slot 0]⟩),
  (35, ⟨45, v35, [.slot 6]⟩),
  (36, ⟨8, v36, [.slot 2]⟩),
  (37, ⟨75, v37, [.slot 6]⟩),
  (38, ⟨83, v38, [.slot 6]⟩),
  (39, ⟨22, v39, [.slot 2]⟩),
  (40, ⟨82, v40, [.slot 6]⟩),
  (41, ⟨98, v41, [.slot 6]⟩),
  (42, ⟨14, v42, [.slot 0]⟩),
  (43, ⟨45, v43, [.slot 4]⟩),
  (44, ⟨64, v44, [.slot 8]⟩),
  (45, ⟨46, v45, [.slot 4]⟩),
  (73, ⟨65, v73, [.slot 2]⟩),
  (74, ⟨40, v74, [.slot 4]⟩),
  (75, ⟨11, v75, [.slot 2]⟩),
  (76, ⟨43, v76, [.slot 2]⟩),
  (77, ⟨25, v77, [.slot 4]⟩),
  (78, ⟨30, v78, [.slot 4, .slot 5]⟩),
  (79, ⟨22, v79, []⟩),
  (80, ⟨19, v80, [.slot 4]⟩),
  (81, ⟨93, v81, [.cell 6 (some 4), .slot 7]⟩),
  (131, ⟨21, v131, [.slot 4, .slot 5]⟩),
  (132, ⟨60, v132, [.slot 2]⟩),
  (133, ⟨19, v133, [.slot 2]⟩),
  (134, ⟨32, v134, [.slot 2]⟩),
  (135, ⟨38, v135, [.cell 4 (some 4)]⟩),
  (157, ⟨42, v157, [.cell 4 (some 5), .slot 5]⟩),
  (170, ⟨22, v170, [.cell 2 (some 4)]⟩)]
theorem tab_ok : (tabOf tabL).OK Try.prog := tabOf_ok (by
  unfold tabL
  refine .cons ent3 ?_
  refine .cons ent9 ?_
  refine .cons ent10 ?_
  refine .cons ent11 ?_
  refine .cons ent12 ?_
  refine .cons ent13 ?_
  refine .cons ent14 ?_
  refine .cons ent15 ?_
  refine .cons ent35 ?_
  refine .cons ent36 ?_
  refine .cons ent37 ?_
  refine .cons ent38 ?_
  refine .cons ent39 ?_
  refine .cons ent40 ?_
  refine .cons ent41 ?_
  refine .cons ent42 ?_
  refine .cons ent43 ?_
  refine .cons ent44 ?_
  refine .cons ent45 ?_
  refine .cons ent73 ?_
  refine .cons ent74 ?_
  refine .cons ent75 ?_
  refine .cons ent76 ?_
  refine .cons ent77 ?_
  refine .cons ent78 ?_
  refine .cons ent79 ?_
  refine .cons ent80 ?_
  refine .cons ent81 ?_
  refine .cons ent131 ?_
  refine .cons ent132 ?_
  refine .cons ent133 ?_
  refine .cons ent134 ?_
  refine .cons ent135 ?_
  refine .cons ent157 ?_
  refine .cons ent170 ?_
  exact .nil)
end Go.Proofs.Ytggonepkbbipbaa

/- The resolved code of some functions, as it is run on values. -/
import Derived.Test.YtjjbjibbjbbeaaaProg
import Derived.Test.YtjjbjibbjbbeaaaAL24
import Derived.Test.YtjjbjibbjbbeaaaAFc
import Derived.KernelRfl
set_option linter.unusedVariables false
namespace Go.Proofs.Ytjjbjibbjbbeaaa
open Go.AL
/-- changeling/changelinglaw15.known -/
def v18 : ACode :=
(.seq
 (.reg [⟨(some 0), .move (.c (.bool false)), none⟩])
 (.seq
  (.reg [⟨(some 4), .lit true 9 1 [(.c (.str ⟨#[35, 49]⟩))], none⟩,
    ⟨(some 5), .build [(.int .i64 0), (.str ⟨#[]⟩), (.int .i64 0), (.int .i64 0), .nils, .nils, .nils, .nils, .nils] [(0, 1, (.c (.int .i64 1))), (1, 1, (.c (.str ⟨#[35, 48]⟩)))], none⟩,
    ⟨(some 6), .lit true 54 9 [(.t 5)], none⟩,
    ⟨(some 7), .build [(.int .i64 0), (.str ⟨#[]⟩), (.int .i64 0), (.int .i64 0), .nils, .nils, .nils, .nils, .nils] [(0, 1, (.c (.int .i64 6))), (4, 1, (.t 4)), (5, 1, (.t 6))], none⟩,
    ⟨(some 1), .new 54 (.c (.agg [(.int .i64 0), (.str ⟨#[]⟩), (.int .i64 0), (.int .i64 0), .nils, .nils, .nils, .nils, .nils])), none⟩,
    ⟨none, .store 9 (.t 1) (.t 7), none⟩])
  (.seq
   (.reg [⟨(some 9), .lit true 9 1 [(.c (.str ⟨#[35, 48]⟩))], none⟩,
     ⟨(some 10), .load (some 9) (.t 1), none⟩,
     ⟨(some 11), .lit true 54 9 [(.t 10)], none⟩,
     ⟨(some 12), .build [(.int .i64 0), (.str ⟨#[]⟩), (.int .i64 0), (.int .i64 0), .nils, .nils, .nils, .nils, .nils] [(0, 1, (.c (.int .i64 6))), (4, 1, (.t 9)), (5, 1, (.t 11))], none⟩,
     ⟨(some 13), .build [(.str ⟨#[]⟩), (.int .i64 0), (.str ⟨#[]⟩), (.int .i64 0), (.int .i64 0), .nils, .nils, .nils, .nils, .nils] [(0, 1, (.c (.str ⟨#[102]⟩))), (1, 9, (.t 12))], none⟩,
     ⟨(some 14), .lit true 58 10 [(.t 13)], none⟩,
     ⟨(some 15), .call 19 [(.t 14)], none⟩,
     ⟨(some 8), .move (.t 15), none⟩,
     ⟨(some 16), .extract (.t 8) 0, none⟩,
     ⟨(some 17), .extract (.t 8) 1, none⟩,
     ⟨(some 2), .move (.t 16), none⟩,
     ⟨(some 3), .move (.t 17), none⟩])
   (.seq
    (.seq
     (.reg [⟨(some 18), .move (.t 3), none⟩,
       ⟨(some 19), .bin .int .neq (.t 18) (.c (.int .i64 0)), none⟩,
       ⟨(some 20), .move (.t 19), none⟩,
       ⟨(some 21), .move (.t 2), some (20, false)⟩,
       ⟨(some 22), .len .slice (.t 21), some (20, false)⟩,
       ⟨(some 23), .bin .int .neq (.t 22) (.c (.int .i64 2)), some (20, false)⟩,
       ⟨(some 24), .pick (.t 20) (.c (.bool true)) (.t 23), none⟩])
     (.cond (.t 24)
      (.seq
       (.reg [⟨(some 0), .move (.c (.bool false)), none⟩])
       .ret)
      .skip))
    (.seq
     (.reg [⟨(some 25), .move (.t 2), none⟩,
       ⟨(some 26), .iaddr 11 (.t 25) (.c (.int .i64 0)), none⟩,
       ⟨(some 27), .faddr 0 (.t 26), none⟩,
       ⟨(some 28), .load none (.t 27), none⟩,
       ⟨(some 29), .bin .str .eql (.t 28) (.c (.str ⟨#[102]⟩)), none⟩,
       ⟨(some 30), .move (.t 29), none⟩,
       ⟨(some 31), .move (.t 2), some (30, true)⟩,
       ⟨(some 32), .iaddr 11 (.t 31) (.c (.int .i64 0)), some (30, true)⟩,
       ⟨(some 33), .faddr 1 (.t 32), some (30, true)⟩,
       ⟨(some 34), .load none (.t 33), some (30, true)⟩,
       ⟨(some 35), .lit true 9 1 [(.c (.str ⟨#[35, 48]⟩))], some (30, true)⟩,
       ⟨(some 36), .call 29 [(.t 34), (.t 35)], some (30, true)⟩,
       ⟨(some 37), .pick (.t 30) (.t 36) (.c (.bool false)), none⟩,
       ⟨(some 38), .move (.t 37), none⟩,
       ⟨(some 39), .move (.t 2), some (38, true)⟩,
       ⟨(some 40), .iaddr 11 (.t 39) (.c (.int .i64 0)), some (38, true)⟩,
       ⟨(some 41), .faddr 2 (.t 40), some (38, true)⟩,
       ⟨(some 42), .faddr 0 (.t 41), some (38, true)⟩,
       ⟨(some 43), .load none (.t 42), some (38, true)⟩,
       ⟨(some 44), .bin .int .eql (.t 43) (.c (.int .i64 5)), some (38, true)⟩,
       ⟨(some 45), .pick (.t 38) (.t 44) (.c (.bool false)), none⟩,
       ⟨(some 46), .move (.t 45), none⟩,
       ⟨(some 47), .move (.t 2), some (46, true)⟩,
       ⟨(some 48), .iaddr 11 (.t 47) (.c (.int .i64 1)), some (46, true)⟩,
       ⟨(some 49), .faddr 0 (.t 48), some (46, true)⟩,
       ⟨(some 50), .load none (.t 49), some (46, true)⟩,
       ⟨(some 51), .bin .str .eql (.t 50) (.c (.str ⟨#[102, 35, 49]⟩)), some (46, true)⟩,
       ⟨(some 52), .pick (.t 46) (.t 51) (.c (.bool false)), none⟩,
       ⟨(some 53), .move (.t 52), none⟩,
       ⟨(some 54), .move (.t 2), some (53, true)⟩,
       ⟨(some 55), .iaddr 11 (.t 54) (.c (.int .i64 1)), some (53, true)⟩,
       ⟨(some 56), .faddr 1 (.t 55), some (53, true)⟩,
       ⟨(some 57), .load none (.t 56), some (53, true)⟩,
       ⟨(some 58), .lit true 9 1 [(.c (.str ⟨#[35, 48]⟩)), (.c (.str ⟨#[35, 49]⟩))], some (53, true)⟩,
       ⟨(some 59), .call 29 [(.t 57), (.t 58)], some (53, true)⟩,
       ⟨(some 60), .pick (.t 53) (.t 59) (.c (.bool false)), none⟩,
       ⟨(some 61), .move (.t 60), none⟩,
       ⟨(some 62), .move (.t 2), some (61, true)⟩,
       ⟨(some 63), .iaddr 11 (.t 62) (.c (.int .i64 1)), some (61, true)⟩,
       ⟨(some 64), .faddr 2 (.t 63), some (61, true)⟩,
       ⟨(some 65), .faddr 1 (.t 64), some (61, true)⟩,
       ⟨(some 66), .load none (.t 65), some (61, true)⟩,
       ⟨(some 67), .bin .str .eql (.t 66) (.c (.str ⟨#[35, 48]⟩)), some (61, true)⟩,
       ⟨(some 68), .pick (.t 61) (.t 67) (.c (.bool false)), none⟩,
       ⟨(some 69), .move (.t 68), none⟩,
       ⟨(some 70), .load (some 9) (.t 1), some (69, true)⟩,
       ⟨(some 71), .call 46 [(.t 70)], some (69, true)⟩,
       ⟨(some 72), .lit true 9 1 [(.c (.str ⟨#[35, 48]⟩))], some (69, true)⟩,
       ⟨(some 73), .call 29 [(.t 71), (.t 72)], some (69, true)⟩,
       ⟨(some 74), .pick (.t 69) (.t 73) (.c (.bool false)), none⟩,
       ⟨(some 0), .move (.t 74), none⟩])
     .ret)))))
theorem ent18 : EntOK Try.prog 18 ⟨75, v18, [.slot 0]⟩ := fun args σ K ha h =>
  enter (own := List.range 75) Try.func18 (by kernel_rfl) (by kernel_rfl) (by kernel_rfl) ha h
theorem ent19 : EntOK Try.prog 19 ⟨57, c19, [.slot 2, .slot 3]⟩ := fun args σ K ha h =>
  in19 ha h
theorem ent29 : EntOK Try.prog 29 ⟨26, c29, [.slot 4]⟩ := fun args σ K ha h =>
  in29 ha h
theorem ent46 : EntOK Try.prog 46 ⟨13, c46, [.slot 2]⟩ := fun args σ K ha h =>
  in46 ha h
theorem ent47 : EntOK Try.prog 47 ⟨63, c47, [.slot 2]⟩ := fun args σ K ha h =>
  in47 ha h
theorem ent48 : EntOK Try.prog 48 ⟨24, c48, [.cell 4 (some 9)]⟩ := fun args σ K ha h =>
  in48 ha h
theorem ent82 : EntOK Try.prog 82 ⟨51, c82, []⟩ := fun args σ K ha h =>
  in82 ha h
theorem ent83 : EntOK Try.prog 83 ⟨15, c83, [.slot 2]⟩ := fun args σ K ha h =>
  in83 ha h
theorem ent84 : EntOK Try.prog 84 ⟨20, c84, [.slot 2]⟩ := fun args σ K ha h =>
  in84 ha h
theorem ent85 : EntOK Try.prog 85 ⟨9, c85, [.slot 4]⟩ := fun args σ K ha h =>
  in85 ha h
theorem ent86 : EntOK Try.prog 86 ⟨266, c86, [.slot 6]⟩ := fun args σ K ha h =>
  in86 ha h
theorem ent87 : EntOK Try.prog 87 ⟨74, c87, [.cell 8 (some 9)]⟩ := fun args σ K ha h =>
  in87 ha h
theorem ent88 : EntOK Try.prog 88 ⟨101, c88, [.cell 8 (some 9)]⟩ := fun args σ K ha h =>
  in88 ha h
theorem ent89 : EntOK Try.prog 89 ⟨33, c89, [.cell 4 (some 9)]⟩ := fun args σ K ha h =>
  in89 ha h
theorem ent110 : EntOK Try.prog 110 ⟨26, c110, [.slot 2]⟩ := fun args σ K ha h =>
  in110 ha h
theorem ent111 : EntOK Try.prog 111 ⟨23, c111, [.slot 2]⟩ := fun args σ K ha h =>
  in111 ha h
theorem ent132 : EntOK Try.prog 132 ⟨60, c132, [.slot 2]⟩ := fun args σ K ha h =>
  in132 ha h
theorem ent136 : EntOK Try.prog 136 ⟨19, c136, [.slot 2]⟩ := fun args σ K ha h =>
  in136 ha h
theorem ent137 : EntOK Try.prog 137 ⟨32, c137, []⟩ := fun args σ K ha h =>
  in137 ha h
theorem ent138 : EntOK Try.prog 138 ⟨58, c138, []⟩ := fun args σ K ha h =>
  in138 ha h
theorem ent139 : EntOK Try.prog 139 ⟨6, c139, []⟩ := fun args σ K ha h =>
  in139 ha h
theorem ent140 : EntOK Try.prog 140 ⟨36, c140, [.slot 4]⟩ := fun args σ K ha h =>
  in140 ha h
theorem ent141 : EntOK Try.prog 141 ⟨79, c141, [.slot 2, .slot 3]⟩ := fun args σ K ha h =>
  in141 ha h
theorem ent142 : EntOK Try.prog 142 ⟨19, c142, [.slot 4]⟩ := fun args σ K ha h =>
  in142 ha h
theorem ent143 : EntOK Try.prog 143 ⟨12, c143, [.slot 4]⟩ := fun args σ K ha h =>
  in143 ha h
theorem ent144 : EntOK Try.prog 144 ⟨128, c144, [.slot 6]⟩ := fun args σ K ha h =>
  in144 ha h
theorem ent145 : EntOK Try.prog 145 ⟨34, c145, [.slot 6]⟩ := fun args σ K ha h =>
  in145 ha h
theorem ent154 : EntOK Try.prog 154 ⟨20, c154, [.slot 2]⟩ := fun args σ K ha h =>
  in154 ha h
theorem ent158 : EntOK Try.prog 158 ⟨19, c158, [.slot 4]⟩ := fun args σ K ha h =>
  in158 ha h
/-- internal/bytealg.LastIndexRabinKarp[string] -/
def v159 : ACode :=
(.seq
 (.reg [⟨(some 4), .move (.c (.int .i64 0)), none⟩])
 (.seq
  (.reg [⟨(some 13), .move (.t 1), none⟩,
    ⟨(some 14), .call 171 [(.t 13)], none⟩,
    ⟨(some 12), .move (.t 14), none⟩,
    ⟨(some 15), .extract (.t 12) 0, none⟩,
    ⟨(some 16), .extract (.t 12) 1, none⟩,
    ⟨(some 5), .move (.t 15), none⟩,
    ⟨(some 6), .move (.t 16), none⟩])
  (.seq
   (.reg [⟨(some 17), .move (.t 1), none⟩,
     ⟨(some 18), .len .str (.t 17), none⟩,
     ⟨(some 7), .move (.t 18), none⟩])
   (.seq
    (.reg [⟨(some 19), .move (.t 0), none⟩,
      ⟨(some 20), .len .str (.t 19), none⟩,
      ⟨(some 21), .move (.t 7), none⟩,
      ⟨(some 22), .bin .int .sub (.t 20) (.t 21), none⟩,
      ⟨(some 8), .move (.t 22), none⟩])
    (.seq
     (.reg [⟨(some 9), .move (.c (.int .u32 0)), none⟩])
     (.seq
      (.seq
       (.reg [⟨(some 23), .move (.t 0), none⟩,
         ⟨(some 24), .len .str (.t 23), none⟩,
         ⟨(some 25), .bin .int .sub (.t 24) (.c (.int .i64 1)), none⟩,
         ⟨(some 10), .move (.t 25), none⟩])
       (.block 0
        (.loop
         (.seq
          (.seq
           (.reg [⟨(some 26), .move (.t 10), none⟩,
             ⟨(some 27), .move (.t 8), none⟩,
             ⟨(some 28), .bin .int .geq (.t 26) (.t 27), none⟩])
           (.cond (.t 28)
            .skip
            (.exit 0)))
          (.seq
           (.block 1
            (.reg [⟨(some 31), .move (.t 9), none⟩,
              ⟨(some 32), .bin .int .mul (.t 31) (.c (.int .u32 16777619)), none⟩,
              ⟨(some 33), .move (.t 0), none⟩,
              ⟨(some 34), .move (.t 10), none⟩,
              ⟨(some 35), .index (.t 33) (.t 34), none⟩,
              ⟨(some 36), .conv .u32 (.t 35), none⟩,
              ⟨(some 37), .bin .int .add (.t 32) (.t 36), none⟩,
              ⟨(some 9), .move (.t 37), none⟩]))
           (.reg [⟨(some 29), .move (.t 10), none⟩,
             ⟨(some 30), .bin .int .sub (.t 29) (.c (.int .i64 1)), none⟩,
             ⟨(some 10), .move (.t 30), none⟩]))))))
      (.seq
       (.seq
        (.reg [⟨(some 38), .move (.t 9), none⟩,
          ⟨(some 39), .move (.t 5), none⟩,
          ⟨(some 40), .bin .int .eql (.t 38) (.t 39), none⟩,
          ⟨(some 41), .move (.t 40), none⟩,
          ⟨(some 42), .move (.t 0), some (41, true)⟩,
          ⟨(some 43), .move (.t 8), some (41, true)⟩,
          ⟨(some 44), .cut .str 1 (.t 42) (some (.t 43)) none, some (41, true)⟩,
          ⟨(some 45), .move (.t 1), some (41, true)⟩,
          ⟨(some 46), .bin .str .eql (.t 44) (.t 45), some (41, true)⟩,
          ⟨(some 47), .pick (.t 41) (.t 46) (.c (.bool false)), none⟩])
        (.cond (.t 47)
         (.seq
          (.reg [⟨(some 48), .move (.t 8), none⟩,
            ⟨(some 4), .move (.t 48), none⟩])
          .ret)
         .skip))
       (.seq
        (.seq
         (.reg [⟨(some 49), .move (.t 8), none⟩,
           ⟨(some 50), .bin .int .sub (.t 49) (.c (.int .i64 1)), none⟩,
           ⟨(some 11), .move (.t 50), none⟩])
         (.block 2
          (.loop
           (.seq
            (.seq
             (.reg [⟨(some 51), .move (.t 11), none⟩,
               ⟨(some 52), .bin .int .geq (.t 51) (.c (.int .i64 0)), none⟩])
             (.cond (.t 52)
              .skip
              (.exit 2)))
            (.seq
             (.block 3
              (.seq
               (.reg [⟨(some 55), .move (.t 9), none⟩,
                 ⟨(some 56), .bin .int .mul (.t 55) (.c (.int .u32 16777619)), none⟩,
                 ⟨(some 9), .move (.t 56), none⟩])
               (.seq
                (.reg [⟨(some 57), .move (.t 9), none⟩,
                  ⟨(some 58), .move (.t 0), none⟩,
                  ⟨(some 59), .move (.t 11), none⟩,
                  ⟨(some 60), .index (.t 58) (.t 59), none⟩,
                  ⟨(some 61), .conv .u32 (.t 60), none⟩,
                  ⟨(some 62), .bin .int .add (.t 57) (.t 61), none⟩,
                  ⟨(some 9), .move (.t 62), none⟩])
                (.seq
                 (.reg [⟨(some 63), .move (.t 9), none⟩,
                   ⟨(some 64), .move (.t 6), none⟩,
                   ⟨(some 65), .move (.t 0), none⟩,
                   ⟨(some 66), .move (.t 11), none⟩,
                   ⟨(some 67), .move (.t 7), none⟩,
                   ⟨(some 68), .bin .int .add (.t 66) (.t 67), none⟩,
                   ⟨(some 69), .index (.t 65) (.t 68), none⟩,
                   ⟨(some 70), .conv .u32 (.t 69), none⟩,
                   ⟨(some 71), .bin .int .mul (.t 64) (.t 70), none⟩,
                   ⟨(some 72), .bin .int .sub (.t 63) (.t 71), none⟩,
                   ⟨(some 9), .move (.t 72), none⟩])
                 (.seq
                  (.reg [⟨(some 73), .move (.t 9), none⟩,
                    ⟨(some 74), .move (.t 5), none⟩,
                    ⟨(some 75), .bin .int .eql (.t 73) (.t 74), none⟩,
                    ⟨(some 76), .move (.t 75), none⟩,
                    ⟨(some 77), .move (.t 0), some (76, true)⟩,
                    ⟨(some 78), .move (.t 11), some (76, true)⟩,
                    ⟨(some 79), .move (.t 11), some (76, true)⟩,
                    ⟨(some 80), .move (.t 7), some (76, true)⟩,
                    ⟨(some 81), .bin .int .add (.t 79) (.t 80), some (76, true)⟩,
                    ⟨(some 82), .cut .str 1 (.t 77) (some (.t 78)) (some (.t 81)), some (76, true)⟩,
                    ⟨(some 83), .move (.t 1), some (76, true)⟩,
                    ⟨(some 84), .bin .str .eql (.t 82) (.t 83), some (76, true)⟩,
                    ⟨(some 85), .pick (.t 76) (.t 84) (.c (.bool false)), none⟩])
                  (.cond (.t 85)
                   (.seq
                    (.reg [⟨(some 86), .move (.t 11), none⟩,
                      ⟨(some 4), .move (.t 86), none⟩])
                    .ret)
                   .skip))))))
             (.reg [⟨(some 53), .move (.t 11), none⟩,
               ⟨(some 54), .bin .int .sub (.t 53) (.c (.int .i64 1)), none⟩,
               ⟨(some 11), .move (.t 54), none⟩]))))))
        (.seq
         (.reg [⟨(some 4), .move (.c (.int .i64 (-1))), none⟩])
         .ret)))))))))
theorem ent159 : EntOK Try.prog 159 ⟨87, v159, [.slot 4]⟩ := fun args σ K ha h =>
  enter (own := List.range 87) Try.func159 (by kernel_rfl) (by kernel_rfl) (by kernel_rfl) ha h
theorem ent160 : EntOK Try.prog 160 ⟨9, c160, [.slot 4]⟩ := fun args σ K ha h =>
  in160 ha h
theorem ent169 : EntOK Try.prog 169 ⟨8, c169, [.slot 4]⟩ := fun args σ K ha h =>
  in169 ha h
/-- internal/bytealg.hashStrRev[string] -/
def v171 : ACode :=
(.seq
 (.reg [⟨(some 2), .move (.c (.int .u32 0)), none⟩,
   ⟨(some 3), .move (.c (.int .u32 0)), none⟩])
 (.seq
  (.reg [⟨(some 4), .move (.c (.int .u32 0)), none⟩])
  (.seq
   (.seq
    (.reg [⟨(some 9), .move (.t 0), none⟩,
      ⟨(some 10), .len .str (.t 9), none⟩,
      ⟨(some 11), .bin .int .sub (.t 10) (.c (.int .i64 1)), none⟩,
      ⟨(some 5), .move (.t 11), none⟩])
    (.block 0
     (.loop
      (.seq
       (.seq
        (.reg [⟨(some 12), .move (.t 5), none⟩,
          ⟨(some 13), .bin .int .geq (.t 12) (.c (.int .i64 0)), none⟩])
        (.cond (.t 13)
         .skip
         (.exit 0)))
       (.seq
        (.block 1
         (.reg [⟨(some 16), .move (.t 4), none⟩,
           ⟨(some 17), .bin .int .mul (.t 16) (.c (.int .u32 16777619)), none⟩,
           ⟨(some 18), .move (.t 0), none⟩,
           ⟨(some 19), .move (.t 5), none⟩,
           ⟨(some 20), .index (.t 18) (.t 19), none⟩,
           ⟨(some 21), .conv .u32 (.t 20), none⟩,
           ⟨(some 22), .bin .int .add (.t 17) (.t 21), none⟩,
           ⟨(some 4), .move (.t 22), none⟩]))
        (.reg [⟨(some 14), .move (.t 5), none⟩,
          ⟨(some 15), .bin .int .sub (.t 14) (.c (.int .i64 1)), none⟩,
          ⟨(some 5), .move (.t 15), none⟩]))))))
   (.seq
    (.reg [⟨(some 6), .move (.c (.int .u32 1)), none⟩,
      ⟨(some 7), .move (.c (.int .u32 16777619)), none⟩])
    (.seq
     (.seq
      (.reg [⟨(some 23), .move (.t 0), none⟩,
        ⟨(some 24), .len .str (.t 23), none⟩,
        ⟨(some 8), .move (.t 24), none⟩])
      (.block 2
       (.loop
        (.seq
         (.seq
          (.reg [⟨(some 25), .move (.t 8), none⟩,
            ⟨(some 26), .bin .int .gtr (.t 25) (.c (.int .i64 0)), none⟩])
          (.cond (.t 26)
           .skip
           (.exit 2)))
         (.seq
          (.block 3
           (.seq
            (.seq
             (.reg [⟨(some 29), .move (.t 8), none⟩,
               ⟨(some 30), .bin .int .and (.t 29) (.c (.int .i64 1)), none⟩,
               ⟨(some 31), .bin .int .neq (.t 30) (.c (.int .i64 0)), none⟩])
             (.cond (.t 31)
              (.reg [⟨(some 32), .move (.t 6), none⟩,
                ⟨(some 33), .move (.t 7), none⟩,
                ⟨(some 34), .bin .int .mul (.t 32) (.t 33), none⟩,
                ⟨(some 6), .move (.t 34), none⟩])
              .skip))
            (.reg [⟨(some 35), .move (.t 7), none⟩,
              ⟨(some 36), .move (.t 7), none⟩,
              ⟨(some 37), .bin .int .mul (.t 35) (.t 36), none⟩,
              ⟨(some 7), .move (.t 37), none⟩])))
          (.reg [⟨(some 27), .move (.t 8), none⟩,
            ⟨(some 28), .bin .int .shr (.t 27) (.c (.int .u64 1)), none⟩,
            ⟨(some 8), .move (.t 28), none⟩]))))))
     (.seq
      (.reg [⟨(some 38), .move (.t 4), none⟩,
        ⟨(some 39), .move (.t 6), none⟩,
        ⟨(some 2), .move (.t 38), none⟩,
        ⟨(some 3), .move (.t 39), none⟩])
      .ret))))))
theorem ent171 : EntOK Try.prog 171 ⟨40, v171, [.slot 2, .slot 3]⟩ := fun args σ K ha h =>
  enter (own := List.range 40) Try.func171 (by kernel_rfl) (by kernel_rfl) (by kernel_rfl) ha h
theorem ent172 : EntOK Try.prog 172 ⟨19, c172, [.slot 4]⟩ := fun args σ K ha h =>
  in172 ha h
theorem ent173 : EntOK Try.prog 173 ⟨18, c173, [.slot 4]⟩ := fun args σ K ha h =>
  in173 ha h
noncomputable def tabL : List (Nat × FEnt) := [(18, ⟨75, v18, [.slot 0]⟩),
  (19, ⟨57, c19, [.slot 2, .slot 3]⟩),
  (29, ⟨26, c29, [.slot 4]⟩),
  (46, ⟨13, c46, [.slot 2]⟩),
  (47, ⟨63, c47, [.slot 2]⟩),
  (48, ⟨24, c48, [.cell 4 (some 9)]⟩),
  (82, ⟨51, c82, []⟩),
  (83, ⟨15, c83, [.slot 2]⟩),
  (84, ⟨20, c84, [.slot 2]⟩),
  (85, ⟨9, c85, [.slot 4]⟩),
  (86, ⟨266, c86, [.slot 6]⟩),
  (87, ⟨74, c87, [.cell 8 (some 9)]⟩),
  (88, ⟨101, c88, [.cell 8 (some 9)]⟩),
  (89, ⟨33, c89, [.cell 4 (some 9)]⟩),
  (110, ⟨26, c110, [.slot 2]⟩),
  (111, ⟨23, c111, [.slot 2]⟩),
  (132, ⟨60, c132, [.slot 2]⟩),
  (136, ⟨19, c136, [.slot 2]⟩),
  (137, ⟨32, c137, []⟩),
  (138, ⟨58, c138, []⟩),
  (139, ⟨6, c139, []⟩),
  (140, ⟨36, c140, [.slot 4]⟩),
  (141, ⟨79, c141, [.slot 2, .slot 3]⟩),
  (142, ⟨19, c142, [.slot 4]⟩),
  (143, ⟨12, c143, [.slot 4]⟩),
  (144, ⟨128, c144, [.slot 6]⟩),
  (145, ⟨34, c145, [.slot 6]⟩),
  (154, ⟨20, c154, [.slot 2]⟩),
  (158, ⟨19, c158, [.slot 4]⟩),
  (159, ⟨87, v159, [.slot 4]⟩),
  (160, ⟨9, c160, [.slot 4]⟩),
  (169, ⟨8, c169, [.slot 4]⟩),
  (171, ⟨40, v171, [.slot 2, .slot 3]⟩),
  (172, ⟨19, c172, [.slot 4]⟩),
  (173, ⟨18, c173, [.slot 4]⟩)]
theorem tab_ok : (tabOf tabL).OK Try.prog := tabOf_ok (by
  unfold tabL
  refine .cons ent18 ?_
  refine .cons ent19 ?_
  refine .cons ent29 ?_
  refine .cons ent46 ?_
  refine .cons ent47 ?_
  refine .cons ent48 ?_
  refine .cons ent82 ?_
  refine .cons ent83 ?_
  refine .cons ent84 ?_
  refine .cons ent85 ?_
  refine .cons ent86 ?_
  refine .cons ent87 ?_
  refine .cons ent88 ?_
  refine .cons ent89 ?_
  refine .cons ent110 ?_
  refine .cons ent111 ?_
  refine .cons ent132 ?_
  refine .cons ent136 ?_
  refine .cons ent137 ?_
  refine .cons ent138 ?_
  refine .cons ent139 ?_
  refine .cons ent140 ?_
  refine .cons ent141 ?_
  refine .cons ent142 ?_
  refine .cons ent143 ?_
  refine .cons ent144 ?_
  refine .cons ent145 ?_
  refine .cons ent154 ?_
  refine .cons ent158 ?_
  refine .cons ent159 ?_
  refine .cons ent160 ?_
  refine .cons ent169 ?_
  refine .cons ent171 ?_
  refine .cons ent172 ?_
  refine .cons ent173 ?_
  exact .nil)
end Go.Proofs.Ytjjbjibbjbbeaaa

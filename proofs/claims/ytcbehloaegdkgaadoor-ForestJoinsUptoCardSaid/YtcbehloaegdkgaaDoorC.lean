/- The slim form of the functions' code, printed by wip/abs/slim.lean: each is checked by the kernel against the translation. -/
import Derived.Test.YtcbehloaegdkgaaDoorProg
import Derived.Test.YtcbehloaegdkgaaDoorA12
namespace Go.Proofs.YtcbehloaegdkgaaDoor
open Go Go.Abs
set_option maxRecDepth 100000
set_option linter.unusedVariables false
-- stencil/stencillaw7.ForestChecks (params 1)
def c3 : SCode :=
  (.seq
   (.region [⟨(some 2), none, .move (.const (.bool false)), []⟩])
   (.seq
    (.seq
     (.region [⟨(some 11), none, .move (.tmp 0), []⟩,
       ⟨(some 12), none, .call 6 [(.tmp 11)], []⟩,
       ⟨(some 13), none, .un .not (.tmp 12), []⟩])
     (.cond (.tmp 13)
      (.seq
       (.region [⟨(some 2), none, .move (.const (.bool true)), []⟩])
       .ret)
      .skip))
    (.seq
     (.region [⟨(some 14), none, .move (.tmp 0), []⟩,
       ⟨(some 15), none, .call 7 [(.tmp 14)], []⟩,
       ⟨(some 3), none, .move (.tmp 15), []⟩])
     (.seq
      (.region [⟨(some 16), none, .move (.tmp 3), []⟩,
        ⟨(some 17), none, .call 8 [(.tmp 16)], []⟩,
        ⟨(some 4), none, .move (.tmp 17), []⟩])
      (.seq
       (.region [⟨(some 18), none, .move (.tmp 3), []⟩,
         ⟨(some 19), none, .call 9 [(.tmp 18)], []⟩,
         ⟨(some 5), none, .move (.tmp 19), []⟩])
       (.seq
        (.region [⟨(some 20), none, .move (.tmp 3), []⟩,
          ⟨(some 21), none, .call 10 [(.tmp 20)], []⟩,
          ⟨(some 6), none, .move (.tmp 21), []⟩])
        (.seq
         (.region [⟨(some 23), none, .move (.tmp 3), []⟩,
           ⟨(some 24), none, .call 11 [(.tmp 23)], []⟩,
           ⟨(some 22), none, .move (.tmp 24), []⟩,
           ⟨(some 25), none, .ext (.tmp 22) 0, []⟩,
           ⟨(some 26), none, .ext (.tmp 22) 1, []⟩,
           ⟨(some 7), none, .move (.tmp 25), []⟩,
           ⟨(some 8), none, .move (.tmp 26), []⟩])
         (.seq
          (.region [⟨(some 28), none, .move (.tmp 0), []⟩,
            ⟨(some 29), none, .call 12 [(.tmp 28)], []⟩,
            ⟨(some 27), none, .move (.tmp 29), []⟩,
            ⟨(some 30), none, .ext (.tmp 27) 0, []⟩,
            ⟨(some 31), none, .ext (.tmp 27) 1, []⟩,
            ⟨(some 9), none, .move (.tmp 30), []⟩,
            ⟨(some 10), none, .move (.tmp 31), []⟩])
          (.seq
           (.region (⟨(some 32), none, .move (.tmp 4), []⟩ ::
             ⟨(some 33), none, .call 13 [(.tmp 32)], []⟩ ::
             ⟨(some 34), none, .move (.tmp 0), []⟩ ::
             ⟨(some 35), none, .call 14 [(.tmp 34)], []⟩ ::
             ⟨(some 36), none, .bin .eql (.tmp 33) (.tmp 35), []⟩ ::
             ⟨(some 37), none, .move (.tmp 36), []⟩ ::
             ⟨(some 38), (some (37, true)), .move (.tmp 5), []⟩ ::
             ⟨(some 39), (some (37, true)), .move (.tmp 0), []⟩ ::
             ⟨(some 40), (some (37, true)), .call 15 [(.tmp 39)], []⟩ ::
             ⟨(some 41), (some (37, true)), .bin .eql (.tmp 38) (.tmp 40), []⟩ ::
             ⟨(some 42), none, .pick (.tmp 37) (.tmp 41) (.const (.bool false)), []⟩ ::
             ⟨(some 43), none, .move (.tmp 42), []⟩ ::
             ⟨(some 44), (some (43, true)), .move (.tmp 6), []⟩ ::
             ⟨(some 45), (some (43, true)), .move (.tmp 0), []⟩ ::
             ⟨(some 46), (some (43, true)), .call 16 [(.tmp 45)], []⟩ ::
             ⟨(some 47), (some (43, true)), .bin .eql (.tmp 44) (.tmp 46), []⟩ ::
             ⟨(some 48), none, .pick (.tmp 43) (.tmp 47) (.const (.bool false)), []⟩ ::
             ⟨(some 49), none, .move (.tmp 48), []⟩ ::
             ⟨(some 50), (some (49, true)), .move (.tmp 7), []⟩ ::
             ⟨(some 51), (some (49, true)), .move (.tmp 9), []⟩ ::
             ⟨(some 52), (some (49, true)), .bin .eql (.tmp 50) (.tmp 51), []⟩ ::
             ⟨(some 53), none, .pick (.tmp 49) (.tmp 52) (.const (.bool false)), []⟩ ::
             ⟨(some 54), none, .move (.tmp 53), []⟩ ::
             ⟨(some 55), (some (54, true)), .move (.tmp 8), []⟩ ::
             ⟨(some 56), (some (54, true)), .call 13 [(.tmp 55)], []⟩ ::
             ⟨(some 57), (some (54, true)), .move (.tmp 10), []⟩ ::
             ⟨(some 58), (some (54, true)), .bin .eql (.tmp 56) (.tmp 57), []⟩ ::
             ⟨(some 59), none, .pick (.tmp 54) (.tmp 58) (.const (.bool false)), []⟩ ::
             ⟨(some 60), none, .move (.tmp 59), []⟩ ::
             ⟨(some 61), (some (60, true)), .move (.tmp 3), []⟩ ::
             ⟨(some 62), (some (60, true)), .move (.tmp 0), []⟩ ::
             ⟨(some 63), (some (60, true)), .call 17 [(.tmp 61), (.tmp 62)], []⟩ ::
             ⟨(some 64), none, .pick (.tmp 60) (.tmp 63) (.const (.bool false)), []⟩ ::
             ⟨(some 65), none, .move (.tmp 64), []⟩ ::
             ⟨(some 66), (some (65, true)), .call 18 [], []⟩ ::
             ⟨(some 67), none, .pick (.tmp 65) (.tmp 66) (.const (.bool false)), []⟩ ::
             ⟨(some 2), none, .move (.tmp 67), []⟩ :: []))
           .ret)))))))))
theorem is3 : IsFn Tryd.prog 3 68 c3 [.tmp 2] :=
  .of Tryd.func3 rfl Tryd.ntmps3 (by kernel_rfl) (by kernel_rfl)

-- stencil/stencillaw7.ForestSames (params 2)
def c4 : SCode :=
  (.seq
   (.region [⟨(some 4), none, .move (.const (.bool false)), []⟩])
   (.seq
    (.seq
     (.region [⟨(some 8), none, .move (.tmp 0), []⟩,
       ⟨(some 9), none, .call 6 [(.tmp 8)], []⟩,
       ⟨(some 10), none, .un .not (.tmp 9), []⟩,
       ⟨(some 11), none, .move (.tmp 10), []⟩,
       ⟨(some 12), (some (11, false)), .move (.tmp 1), []⟩,
       ⟨(some 13), (some (11, false)), .call 6 [(.tmp 12)], []⟩,
       ⟨(some 14), (some (11, false)), .un .not (.tmp 13), []⟩,
       ⟨(some 15), none, .pick (.tmp 11) (.const (.bool true)) (.tmp 14), []⟩])
     (.cond (.tmp 15)
      (.seq
       (.region [⟨(some 4), none, .move (.const (.bool true)), []⟩])
       .ret)
      .skip))
    (.seq
     (.region [⟨(some 16), none, .move (.tmp 0), []⟩,
       ⟨(some 17), none, .call 7 [(.tmp 16)], []⟩,
       ⟨(some 5), none, .move (.tmp 17), []⟩])
     (.seq
      (.region [⟨(some 18), none, .move (.tmp 1), []⟩,
        ⟨(some 19), none, .call 7 [(.tmp 18)], []⟩,
        ⟨(some 6), none, .move (.tmp 19), []⟩])
      (.seq
       (.region [⟨(some 20), none, .move (.tmp 5), []⟩,
         ⟨(some 21), none, .move (.tmp 6), []⟩,
         ⟨(some 22), none, .call 19 [(.tmp 20), (.tmp 21)], []⟩,
         ⟨(some 7), none, .move (.tmp 22), []⟩])
       (.seq
        (.region (⟨(some 23), none, .move (.tmp 7), []⟩ ::
          ⟨(some 24), none, .move (.tmp 0), []⟩ ::
          ⟨(some 25), none, .move (.tmp 1), []⟩ ::
          ⟨(some 26), none, .call 20 [(.tmp 24), (.tmp 25)], []⟩ ::
          ⟨(some 27), none, .eqB .eql (.tmp 23) (.tmp 26), []⟩ ::
          ⟨(some 28), none, .move (.tmp 27), []⟩ ::
          ⟨(some 29), (some (28, true)), .move (.tmp 6), []⟩ ::
          ⟨(some 30), (some (28, true)), .move (.tmp 5), []⟩ ::
          ⟨(some 31), (some (28, true)), .call 19 [(.tmp 29), (.tmp 30)], []⟩ ::
          ⟨(some 32), (some (28, true)), .move (.tmp 7), []⟩ ::
          ⟨(some 33), (some (28, true)), .eqB .eql (.tmp 31) (.tmp 32), []⟩ ::
          ⟨(some 34), none, .pick (.tmp 28) (.tmp 33) (.const (.bool false)), []⟩ ::
          ⟨(some 35), none, .move (.tmp 34), []⟩ ::
          ⟨(some 36), (some (35, true)), .move (.tmp 5), []⟩ ::
          ⟨(some 37), (some (35, true)), .move (.tmp 0), []⟩ ::
          ⟨(some 38), (some (35, true)), .call 21 [(.tmp 37)], []⟩ ::
          ⟨(some 39), (some (35, true)), .call 19 [(.tmp 36), (.tmp 38)], []⟩ ::
          ⟨(some 40), none, .pick (.tmp 35) (.tmp 39) (.const (.bool false)), []⟩ ::
          ⟨(some 41), none, .move (.tmp 40), []⟩ ::
          ⟨(some 42), (some (41, true)), .move (.tmp 5), []⟩ ::
          ⟨(some 43), (some (41, true)), .move (.tmp 0), []⟩ ::
          ⟨(some 44), (some (41, true)), .call 17 [(.tmp 42), (.tmp 43)], []⟩ ::
          ⟨(some 45), none, .pick (.tmp 41) (.tmp 44) (.const (.bool false)), []⟩ ::
          ⟨(some 46), none, .move (.tmp 45), []⟩ ::
          ⟨(some 47), (some (46, true)), .move (.tmp 6), []⟩ ::
          ⟨(some 48), (some (46, true)), .move (.tmp 1), []⟩ ::
          ⟨(some 49), (some (46, true)), .call 17 [(.tmp 47), (.tmp 48)], []⟩ ::
          ⟨(some 50), none, .pick (.tmp 46) (.tmp 49) (.const (.bool false)), []⟩ ::
          ⟨(some 51), none, .move (.tmp 50), []⟩ ::
          ⟨(some 52), (some (51, true)), .call 18 [], []⟩ ::
          ⟨(some 53), none, .pick (.tmp 51) (.tmp 52) (.const (.bool false)), []⟩ ::
          ⟨(some 4), none, .move (.tmp 53), []⟩ :: []))
        .ret))))))
theorem is4 : IsFn Tryd.prog 4 54 c4 [.tmp 4] :=
  .of Tryd.func4 rfl Tryd.ntmps4 (by kernel_rfl) (by kernel_rfl)

-- stencil/stencillaw7.ForestJoins (params 2)
def c5 : SCode :=
  (.seq
   (.region [⟨(some 4), none, .move (.const (.bool false)), []⟩])
   (.seq
    (.seq
     (.region [⟨(some 15), none, .call 18 [], []⟩,
       ⟨(some 16), none, .un .not (.tmp 15), []⟩])
     (.cond (.tmp 16)
      (.seq
       (.region [⟨(some 4), none, .move (.const (.bool false)), []⟩])
       .ret)
      .skip))
    (.seq
     (.seq
      (.region [⟨(some 17), none, .move (.tmp 0), []⟩,
        ⟨(some 18), none, .call 6 [(.tmp 17)], []⟩,
        ⟨(some 19), none, .un .not (.tmp 18), []⟩,
        ⟨(some 20), none, .move (.tmp 19), []⟩,
        ⟨(some 21), (some (20, false)), .move (.tmp 1), []⟩,
        ⟨(some 22), (some (20, false)), .call 6 [(.tmp 21)], []⟩,
        ⟨(some 23), (some (20, false)), .un .not (.tmp 22), []⟩,
        ⟨(some 24), none, .pick (.tmp 20) (.const (.bool true)) (.tmp 23), []⟩])
      (.cond (.tmp 24)
       (.seq
        (.region [⟨(some 4), none, .move (.const (.bool true)), []⟩])
        .ret)
       .skip))
     (.seq
      (.region [⟨(some 25), none, .move (.tmp 0), []⟩,
        ⟨(some 26), none, .call 21 [(.tmp 25)], []⟩,
        ⟨(some 27), none, .move (.tmp 1), []⟩,
        ⟨(some 28), none, .call 21 [(.tmp 27)], []⟩,
        ⟨(some 29), none, .app 37 4 80 (.tmp 26) (.tmp 28), []⟩,
        ⟨(some 5), none, .move (.tmp 29), []⟩])
      (.seq
       (.region [⟨(some 31), none, .move (.tmp 0), []⟩,
         ⟨(some 32), none, .call 11 [(.tmp 31)], []⟩,
         ⟨(some 30), none, .move (.tmp 32), []⟩,
         ⟨(some 33), none, .ext (.tmp 30) 0, []⟩,
         ⟨(some 34), none, .ext (.tmp 30) 1, []⟩,
         ⟨(some 6), none, .move (.tmp 33), []⟩,
         ⟨(some 7), none, .move (.tmp 34), []⟩])
       (.seq
        (.region [⟨(some 36), none, .move (.tmp 1), []⟩,
          ⟨(some 37), none, .call 11 [(.tmp 36)], []⟩,
          ⟨(some 35), none, .move (.tmp 37), []⟩,
          ⟨(some 38), none, .ext (.tmp 35) 0, []⟩,
          ⟨(some 39), none, .ext (.tmp 35) 1, []⟩,
          ⟨(some 8), none, .move (.tmp 38), []⟩,
          ⟨(some 9), none, .move (.tmp 39), []⟩])
        (.seq
         (.region [⟨(some 41), none, .move (.tmp 5), []⟩,
           ⟨(some 42), none, .call 11 [(.tmp 41)], []⟩,
           ⟨(some 40), none, .move (.tmp 42), []⟩,
           ⟨(some 43), none, .ext (.tmp 40) 0, []⟩,
           ⟨(some 44), none, .ext (.tmp 40) 1, []⟩,
           ⟨(some 10), none, .move (.tmp 43), []⟩,
           ⟨(some 11), none, .move (.tmp 44), []⟩])
         (.seq
          (.seq
           (.region [⟨(some 45), none, .move (.tmp 7), []⟩,
             ⟨(some 46), none, .call 13 [(.tmp 45)], []⟩,
             ⟨(some 47), none, .bin .neq (.tmp 46) (.const (.int .i64 0)), []⟩,
             ⟨(some 48), none, .move (.tmp 47), []⟩,
             ⟨(some 49), (some (48, false)), .move (.tmp 9), []⟩,
             ⟨(some 50), (some (48, false)), .call 13 [(.tmp 49)], []⟩,
             ⟨(some 51), (some (48, false)), .bin .neq (.tmp 50) (.const (.int .i64 0)), []⟩,
             ⟨(some 52), none, .pick (.tmp 48) (.const (.bool true)) (.tmp 51), []⟩,
             ⟨(some 53), none, .move (.tmp 52), []⟩,
             ⟨(some 54), (some (53, false)), .move (.tmp 0), []⟩,
             ⟨(some 55), (some (53, false)), .call 9 [(.tmp 54)], []⟩,
             ⟨(some 56), (some (53, false)), .move (.tmp 1), []⟩,
             ⟨(some 57), (some (53, false)), .call 9 [(.tmp 56)], []⟩,
             ⟨(some 58), (some (53, false)), .bin .add (.tmp 55) (.tmp 57), []⟩,
             ⟨(some 59), (some (53, false)), .bin .geq (.tmp 58) (.const (.int .i64 4096)), []⟩,
             ⟨(some 60), none, .pick (.tmp 53) (.const (.bool true)) (.tmp 59), []⟩])
           (.cond (.tmp 60)
            (.seq
             (.region [⟨(some 4), none, .move (.const (.bool true)), []⟩])
             .ret)
            .skip))
          (.seq
           (.seq
            (.region (⟨(some 61), none, .move (.tmp 11), []⟩ ::
              ⟨(some 62), none, .call 13 [(.tmp 61)], []⟩ ::
              ⟨(some 63), none, .bin .neq (.tmp 62) (.const (.int .i64 0)), []⟩ ::
              ⟨(some 64), none, .move (.tmp 63), []⟩ ::
              ⟨(some 65), (some (64, false)), .move (.tmp 10), []⟩ ::
              ⟨(some 66), (some (64, false)), .move (.tmp 6), []⟩ ::
              ⟨(some 67), (some (64, false)), .move (.tmp 8), []⟩ ::
              ⟨(some 68), (some (64, false)), .bin .add (.tmp 66) (.tmp 67), []⟩ ::
              ⟨(some 69), (some (64, false)), .bin .neq (.tmp 65) (.tmp 68), []⟩ ::
              ⟨(some 70), none, .pick (.tmp 64) (.const (.bool true)) (.tmp 69), []⟩ ::
              ⟨(some 71), none, .move (.tmp 70), []⟩ ::
              ⟨(some 72), (some (71, false)), .move (.tmp 5), []⟩ ::
              ⟨(some 73), (some (71, false)), .call 9 [(.tmp 72)], []⟩ ::
              ⟨(some 74), (some (71, false)), .move (.tmp 0), []⟩ ::
              ⟨(some 75), (some (71, false)), .call 9 [(.tmp 74)], []⟩ ::
              ⟨(some 76), (some (71, false)), .move (.tmp 1), []⟩ ::
              ⟨(some 77), (some (71, false)), .call 9 [(.tmp 76)], []⟩ ::
              ⟨(some 78), (some (71, false)), .bin .add (.tmp 75) (.tmp 77), []⟩ ::
              ⟨(some 79), (some (71, false)), .bin .neq (.tmp 73) (.tmp 78), []⟩ ::
              ⟨(some 80), none, .pick (.tmp 71) (.const (.bool true)) (.tmp 79), []⟩ ::
              ⟨(some 81), none, .move (.tmp 80), []⟩ ::
              ⟨(some 82), (some (81, false)), .move (.tmp 5), []⟩ ::
              ⟨(some 83), (some (81, false)), .call 10 [(.tmp 82)], []⟩ ::
              ⟨(some 84), (some (81, false)), .move (.tmp 0), []⟩ ::
              ⟨(some 85), (some (81, false)), .call 10 [(.tmp 84)], []⟩ ::
              ⟨(some 86), (some (81, false)), .move (.tmp 1), []⟩ ::
              ⟨(some 87), (some (81, false)), .call 10 [(.tmp 86)], []⟩ ::
              ⟨(some 88), (some (81, false)), .max (.tmp 85) (.tmp 87), []⟩ ::
              ⟨(some 89), (some (81, false)), .bin .neq (.tmp 83) (.tmp 88), []⟩ ::
              ⟨(some 90), none, .pick (.tmp 81) (.const (.bool true)) (.tmp 89), []⟩ :: []))
            (.cond (.tmp 90)
             (.seq
              (.region [⟨(some 4), none, .move (.const (.bool false)), []⟩])
              .ret)
             .skip))
           (.seq
            (.region [⟨(some 91), none, .move (.tmp 5), []⟩,
              ⟨(some 92), none, .build [.v (.string ⟨#[]⟩), .v (.string ⟨#[]⟩), .v (.slice none 0 0), .v (.slice none 0 0)] [(0, 1, (.const (.string ⟨#[113]⟩))), (3, 1, (.tmp 91))], []⟩,
              ⟨(some 93), none, .buildSl 4 1 [.v (.string ⟨#[]⟩), .v (.string ⟨#[]⟩), .v (.slice none 0 0), .v (.slice none 0 0)] [(0, (.tmp 92))], []⟩,
              ⟨(some 12), none, .move (.tmp 93), []⟩])
            (.seq
             (.region [⟨(some 95), none, .move (.tmp 12), []⟩,
               ⟨(some 96), none, .call 11 [(.tmp 95)], []⟩,
               ⟨(some 94), none, .move (.tmp 96), []⟩,
               ⟨(some 97), none, .ext (.tmp 94) 0, []⟩,
               ⟨(some 98), none, .ext (.tmp 94) 1, []⟩,
               ⟨(some 13), none, .move (.tmp 97), []⟩,
               ⟨(some 14), none, .move (.tmp 98), []⟩])
             (.seq
              (.seq
               (.region [⟨(some 99), none, .move (.tmp 5), []⟩,
                 ⟨(some 100), none, .call 10 [(.tmp 99)], []⟩,
                 ⟨(some 101), none, .bin .geq (.tmp 100) (.const (.int .i64 64)), []⟩])
               (.cond (.tmp 101)
                (.seq
                 (.region [⟨(some 102), none, .move (.tmp 14), []⟩,
                   ⟨(some 103), none, .call 13 [(.tmp 102)], []⟩,
                   ⟨(some 104), none, .bin .eql (.tmp 103) (.const (.int .i64 701)), []⟩,
                   ⟨(some 4), none, .move (.tmp 104), []⟩])
                 .ret)
                .skip))
              (.seq
               (.region (⟨(some 105), none, .move (.tmp 14), []⟩ ::
                 ⟨(some 106), none, .call 13 [(.tmp 105)], []⟩ ::
                 ⟨(some 107), none, .bin .eql (.tmp 106) (.const (.int .i64 0)), []⟩ ::
                 ⟨(some 108), none, .move (.tmp 107), []⟩ ::
                 ⟨(some 109), (some (108, true)), .move (.tmp 13), []⟩ ::
                 ⟨(some 110), (some (108, true)), .move (.tmp 10), []⟩ ::
                 ⟨(some 111), (some (108, true)), .bin .add (.const (.string ⟨#[60, 113, 62]⟩)) (.tmp 110), []⟩ ::
                 ⟨(some 112), (some (108, true)), .bin .add (.tmp 111) (.const (.string ⟨#[60, 47, 113, 62]⟩)), []⟩ ::
                 ⟨(some 113), (some (108, true)), .bin .eql (.tmp 109) (.tmp 112), []⟩ ::
                 ⟨(some 114), none, .pick (.tmp 108) (.tmp 113) (.const (.bool false)), []⟩ ::
                 ⟨(some 115), none, .move (.tmp 114), []⟩ ::
                 ⟨(some 116), (some (115, true)), .move (.tmp 12), []⟩ ::
                 ⟨(some 117), (some (115, true)), .call 9 [(.tmp 116)], []⟩ ::
                 ⟨(some 118), (some (115, true)), .move (.tmp 5), []⟩ ::
                 ⟨(some 119), (some (115, true)), .call 9 [(.tmp 118)], []⟩ ::
                 ⟨(some 120), (some (115, true)), .bin .add (.const (.int .i64 1)) (.tmp 119), []⟩ ::
                 ⟨(some 121), (some (115, true)), .bin .eql (.tmp 117) (.tmp 120), []⟩ ::
                 ⟨(some 122), none, .pick (.tmp 115) (.tmp 121) (.const (.bool false)), []⟩ ::
                 ⟨(some 123), none, .move (.tmp 122), []⟩ ::
                 ⟨(some 124), (some (123, true)), .move (.tmp 12), []⟩ ::
                 ⟨(some 125), (some (123, true)), .call 10 [(.tmp 124)], []⟩ ::
                 ⟨(some 126), (some (123, true)), .move (.tmp 5), []⟩ ::
                 ⟨(some 127), (some (123, true)), .call 10 [(.tmp 126)], []⟩ ::
                 ⟨(some 128), (some (123, true)), .bin .add (.const (.int .i64 1)) (.tmp 127), []⟩ ::
                 ⟨(some 129), (some (123, true)), .bin .eql (.tmp 125) (.tmp 128), []⟩ ::
                 ⟨(some 130), none, .pick (.tmp 123) (.tmp 129) (.const (.bool false)), []⟩ ::
                 ⟨(some 4), none, .move (.tmp 130), []⟩ :: []))
               .ret)))))))))))))
theorem is5 : IsFn Tryd.prog 5 131 c5 [.tmp 4] :=
  .of Tryd.func5 rfl Tryd.ntmps5 (by kernel_rfl) (by kernel_rfl)

-- stencil/stencillaw0.ShallowTrees (params 1)
def c6 : SCode :=
  (.seq
   (.region [⟨(some 2), none, .move (.const (.bool false)), []⟩])
   (.seq
    (.region [⟨(some 3), none, .move (.tmp 0), []⟩,
      ⟨(some 4), none, .call 22 [(.tmp 3), (.const (.int .i64 4096))], []⟩,
      ⟨(some 2), none, .move (.tmp 4), []⟩])
    .ret))
theorem is6 : IsFn Tryd.prog 6 5 c6 [.tmp 2] :=
  .of Tryd.func6 rfl Tryd.ntmps6 (by kernel_rfl) (by kernel_rfl)

-- stencil/stencillaw0.LendTrees (params 1)
def c7 : SCode :=
  (.seq
   (.region [⟨(some 2), none, .move (.const (.slice none 0 0)), []⟩])
   (.seq
    (.region [⟨(some 3), none, .move (.const (.slice none 0 0)), []⟩])
    (.seq
     (.seq
      (.region [⟨(some 4), none, .move (.const (.int .i64 0)), []⟩])
      (.block 0
       (.loop
        (.seq
         (.seq
          (.region [⟨(some 5), none, .move (.tmp 4), []⟩,
            ⟨(some 6), none, .move (.tmp 0), []⟩,
            ⟨(some 7), none, .lenL (.tmp 6), []⟩,
            ⟨(some 8), none, .bin .lss (.tmp 5) (.tmp 7), []⟩])
          (.cond (.tmp 8)
           .skip
           (.exit 0)))
         (.seq
          (.block 1
           (.region [⟨(some 11), none, .move (.tmp 3), []⟩,
             ⟨(some 12), none, .move (.tmp 0), []⟩,
             ⟨(some 13), none, .move (.tmp 4), []⟩,
             ⟨(some 14), none, .idxA 4 (.tmp 12) (.tmp 13), []⟩,
             ⟨(some 15), none, .load true 4 (.tmp 14), []⟩,
             ⟨(some 16), none, .call 23 [(.tmp 15)], []⟩,
             ⟨(some 17), none, .buildSl 4 1 [.v (.string ⟨#[]⟩), .v (.string ⟨#[]⟩), .v (.slice none 0 0), .v (.slice none 0 0)] [(0, (.tmp 16))], []⟩,
             ⟨(some 18), none, .app 37 4 80 (.tmp 11) (.tmp 17), []⟩,
             ⟨(some 3), none, .move (.tmp 18), []⟩]))
          (.region [⟨(some 9), none, .move (.tmp 4), []⟩,
            ⟨(some 10), none, .bin .add (.tmp 9) (.const (.int .i64 1)), []⟩,
            ⟨(some 4), none, .move (.tmp 10), []⟩]))))))
     (.seq
      (.region [⟨(some 19), none, .move (.tmp 3), []⟩,
        ⟨(some 20), none, .build [.v (.string ⟨#[]⟩), .v (.string ⟨#[]⟩), .v (.slice none 0 0), .v (.slice none 0 0)] [(0, 1, (.const (.string ⟨#[126, 114, 111, 111, 109]⟩)))], []⟩,
        ⟨(some 21), none, .build [.v (.string ⟨#[]⟩), .v (.string ⟨#[]⟩), .v (.slice none 0 0), .v (.slice none 0 0)] [(0, 1, (.const (.string ⟨#[126, 114, 111, 111, 109]⟩)))], []⟩,
        ⟨(some 22), none, .buildSl 4 2 [.v (.string ⟨#[]⟩), .v (.string ⟨#[]⟩), .v (.slice none 0 0), .v (.slice none 0 0)] [(0, (.tmp 20)), (1, (.tmp 21))], []⟩,
        ⟨(some 23), none, .app 37 4 80 (.tmp 19) (.tmp 22), []⟩,
        ⟨(some 3), none, .move (.tmp 23), []⟩])
      (.seq
       (.region [⟨(some 24), none, .move (.tmp 3), []⟩,
         ⟨(some 25), none, .move (.tmp 0), []⟩,
         ⟨(some 26), none, .lenL (.tmp 25), []⟩,
         ⟨(some 27), none, .slL 4 (.tmp 24) none (some (.tmp 26)) none, []⟩,
         ⟨(some 2), none, .move (.tmp 27), []⟩])
       .ret)))))
theorem is7 : IsFn Tryd.prog 7 28 c7 [.tmp 2] :=
  .of Tryd.func7 rfl Tryd.ntmps7 (by kernel_rfl) (by kernel_rfl)

-- stencil/forest.Check (params 1)
def c8 : SCode :=
  (.seq
   (.region [⟨(some 2), none, .move (.const (.int .i64 0)), []⟩])
   (.seq
    (.region [⟨(some 3), none, .move (.tmp 0), []⟩,
      ⟨(some 4), none, .call 24 [(.tmp 3)], []⟩,
      ⟨(some 5), none, .getf false 2 1 (.tmp 4), []⟩,
      ⟨(some 2), none, .move (.tmp 5), []⟩])
    .ret))
theorem is8 : IsFn Tryd.prog 8 6 c8 [.tmp 2] :=
  .of Tryd.func8 rfl Tryd.ntmps8 (by kernel_rfl) (by kernel_rfl)

-- stencil/forest.Count (params 1)
def c9 : SCode :=
  (.seq
   (.region [⟨(some 2), none, .move (.const (.int .i64 0)), []⟩])
   (.seq
    (.region [⟨(some 3), none, .move (.tmp 0), []⟩,
      ⟨(some 4), none, .call 24 [(.tmp 3)], []⟩,
      ⟨(some 5), none, .getf false 0 1 (.tmp 4), []⟩,
      ⟨(some 2), none, .move (.tmp 5), []⟩])
    .ret))
theorem is9 : IsFn Tryd.prog 9 6 c9 [.tmp 2] :=
  .of Tryd.func9 rfl Tryd.ntmps9 (by kernel_rfl) (by kernel_rfl)

-- stencil/forest.Depth (params 1)
def c10 : SCode :=
  (.seq
   (.region [⟨(some 2), none, .move (.const (.int .i64 0)), []⟩])
   (.seq
    (.region [⟨(some 3), none, .move (.tmp 0), []⟩,
      ⟨(some 4), none, .call 24 [(.tmp 3)], []⟩,
      ⟨(some 5), none, .getf false 1 1 (.tmp 4), []⟩,
      ⟨(some 2), none, .move (.tmp 5), []⟩])
    .ret))
theorem is10 : IsFn Tryd.prog 10 6 c10 [.tmp 2] :=
  .of Tryd.func10 rfl Tryd.ntmps10 (by kernel_rfl) (by kernel_rfl)

-- stencil/forest.Html (params 1)
def c11 : SCode :=
  (.seq
   (.region [⟨(some 2), none, .move (.const (.string ⟨#[]⟩)), []⟩,
     ⟨(some 3), none, .move (.const (.int .i64 0)), []⟩])
   (.seq
    (.seq
     (.region [⟨(some 6), none, .move (.tmp 0), []⟩,
       ⟨(some 7), none, .call 8 [(.tmp 6)], []⟩,
       ⟨(some 4), none, .move (.tmp 7), []⟩])
     (.seq
      (.region [⟨(some 8), none, .move (.tmp 4), []⟩,
        ⟨(some 9), none, .bin .neq (.tmp 8) (.const (.int .i64 0)), []⟩])
      (.cond (.tmp 9)
       (.seq
        (.region [⟨(some 10), none, .move (.tmp 4), []⟩,
          ⟨(some 2), none, .move (.const (.string ⟨#[]⟩)), []⟩,
          ⟨(some 3), none, .move (.tmp 10), []⟩])
        .ret)
       .skip)))
    (.seq
     (.region [⟨(some 5), none, .alloc 46 [.v (.pointer none), .v (.slice none 0 0)], []⟩])
     (.seq
      (.region [⟨(some 11), none, .move (.tmp 0), []⟩,
        ⟨(some 12), none, .call 25 [(.tmp 5), (.tmp 11)], []⟩])
      (.seq
       (.region [⟨(some 13), none, .call 26 [(.tmp 5)], []⟩,
         ⟨(some 2), none, .move (.tmp 13), []⟩,
         ⟨(some 3), none, .move (.const (.int .i64 0)), []⟩])
       .ret)))))
theorem is11 : IsFn Tryd.prog 11 14 c11 [.tmp 2, .tmp 3] :=
  .of Tryd.func11 rfl Tryd.ntmps11 (by kernel_rfl) (by kernel_rfl)

-- stencil/stencilref7.Html (params 1)
def c12 : SCode :=
  (.seq
   (.region [⟨(some 2), none, .move (.const (.string ⟨#[]⟩)), []⟩,
     ⟨(some 3), none, .move (.const (.int .i64 0)), []⟩])
   (.seq
    (.region [⟨(some 5), none, .move (.tmp 0), []⟩,
      ⟨(some 6), none, .call 14 [(.tmp 5)], []⟩,
      ⟨(some 4), none, .move (.tmp 6), []⟩])
    (.seq
     (.seq
      (.region [⟨(some 7), none, .move (.tmp 4), []⟩,
        ⟨(some 8), none, .bin .neq (.tmp 7) (.const (.int .i64 0)), []⟩])
      (.cond (.tmp 8)
       (.seq
        (.region [⟨(some 9), none, .move (.tmp 4), []⟩,
          ⟨(some 2), none, .move (.const (.string ⟨#[]⟩)), []⟩,
          ⟨(some 3), none, .move (.tmp 9), []⟩])
        .ret)
       .skip))
     (.seq
      (.region [⟨(some 10), none, .move (.tmp 0), []⟩,
        ⟨(some 11), none, .call 27 [(.tmp 10)], []⟩,
        ⟨(some 12), none, .bytesStr (.tmp 11), []⟩,
        ⟨(some 2), none, .move (.tmp 12), []⟩,
        ⟨(some 3), none, .move (.const (.int .i64 0)), []⟩])
      .ret))))
theorem is12 : IsFn Tryd.prog 12 13 c12 [.tmp 2, .tmp 3] :=
  .of Tryd.func12 rfl Tryd.ntmps12 (by kernel_rfl) (by kernel_rfl)

-- stencil/stencillaw0.Num (params 1)
def c13 : SCode :=
  (.seq
   (.region [⟨(some 2), none, .move (.const (.int .i64 0)), []⟩])
   (.seq
    (.region [⟨(some 3), none, .move (.tmp 0), []⟩,
      ⟨(some 2), none, .move (.tmp 3), []⟩])
    .ret))
theorem is13 : IsFn Tryd.prog 13 4 c13 [.tmp 2] :=
  .of Tryd.func13 rfl Tryd.ntmps13 (by kernel_rfl) (by kernel_rfl)

-- stencil/stencilref7.Check (params 1)
def c14 : SCode :=
  (.seq
   (.region [⟨(some 2), none, .move (.const (.int .i64 0)), []⟩])
   (.seq
    (.region [⟨(some 6), none, .move (.tmp 0), []⟩,
      ⟨(some 7), none, .call 28 [(.tmp 6), (.const (.int .i64 0)), (.const (.int .i64 1))], []⟩,
      ⟨(some 5), none, .move (.tmp 7), []⟩,
      ⟨(some 8), none, .ext (.tmp 5) 0, []⟩,
      ⟨(some 9), none, .ext (.tmp 5) 1, []⟩,
      ⟨(some 3), none, .move (.tmp 8), []⟩,
      ⟨(some 4), none, .move (.tmp 9), []⟩])
    (.seq
     (.region [⟨(some 10), none, .move (.tmp 4), []⟩,
       ⟨(some 2), none, .move (.tmp 10), []⟩])
     .ret)))
theorem is14 : IsFn Tryd.prog 14 11 c14 [.tmp 2] :=
  .of Tryd.func14 rfl Tryd.ntmps14 (by kernel_rfl) (by kernel_rfl)

-- stencil/stencilref7.Count (params 1)
def c15 : SCode :=
  (.seq
   (.region [⟨(some 2), none, .move (.const (.int .i64 0)), []⟩])
   (.seq
    (.region [⟨(some 6), none, .move (.tmp 0), []⟩,
      ⟨(some 7), none, .call 28 [(.tmp 6), (.const (.int .i64 0)), (.const (.int .i64 1))], []⟩,
      ⟨(some 5), none, .move (.tmp 7), []⟩,
      ⟨(some 8), none, .ext (.tmp 5) 0, []⟩,
      ⟨(some 9), none, .ext (.tmp 5) 1, []⟩,
      ⟨(some 3), none, .move (.tmp 8), []⟩,
      ⟨(some 4), none, .move (.tmp 9), []⟩])
    (.seq
     (.seq
      (.region [⟨(some 10), none, .move (.tmp 4), []⟩,
        ⟨(some 11), none, .bin .neq (.tmp 10) (.const (.int .i64 0)), []⟩])
      (.cond (.tmp 11)
       (.seq
        (.region [⟨(some 2), none, .move (.const (.int .i64 0)), []⟩])
        .ret)
       .skip))
     (.seq
      (.region [⟨(some 12), none, .move (.tmp 3), []⟩,
        ⟨(some 2), none, .move (.tmp 12), []⟩])
      .ret))))
theorem is15 : IsFn Tryd.prog 15 13 c15 [.tmp 2] :=
  .of Tryd.func15 rfl Tryd.ntmps15 (by kernel_rfl) (by kernel_rfl)

-- stencil/stencilref7.Depth (params 1)
def c16 : SCode :=
  (.seq
   (.region [⟨(some 2), none, .move (.const (.int .i64 0)), []⟩])
   (.seq
    (.seq
     (.region [⟨(some 3), none, .move (.tmp 0), []⟩,
       ⟨(some 4), none, .call 14 [(.tmp 3)], []⟩,
       ⟨(some 5), none, .bin .neq (.tmp 4) (.const (.int .i64 0)), []⟩])
     (.cond (.tmp 5)
      (.seq
       (.region [⟨(some 2), none, .move (.const (.int .i64 0)), []⟩])
       .ret)
      .skip))
    (.seq
     (.region [⟨(some 6), none, .move (.tmp 0), []⟩,
       ⟨(some 7), none, .call 29 [(.tmp 6)], []⟩,
       ⟨(some 2), none, .move (.tmp 7), []⟩])
     .ret)))
theorem is16 : IsFn Tryd.prog 16 8 c16 [.tmp 2] :=
  .of Tryd.func16 rfl Tryd.ntmps16 (by kernel_rfl) (by kernel_rfl)

-- stencil/stencillaw0.KeptTrees (params 2)
def c17 : SCode :=
  (.seq
   (.region [⟨(some 4), none, .move (.const (.bool false)), []⟩])
   (.seq
    (.region [⟨(some 7), none, .move (.tmp 0), []⟩,
      ⟨(some 8), none, .move (.tmp 0), []⟩,
      ⟨(some 9), none, .lenL (.tmp 8), []⟩,
      ⟨(some 10), none, .bin .add (.tmp 9) (.const (.int .i64 2)), []⟩,
      ⟨(some 11), none, .slL 4 (.tmp 7) none (some (.tmp 10)) none, []⟩,
      ⟨(some 5), none, .move (.tmp 11), []⟩])
    (.seq
     (.seq
      (.region (⟨(some 12), none, .move (.tmp 0), []⟩ ::
        ⟨(some 13), none, .lenL (.tmp 12), []⟩ ::
        ⟨(some 14), none, .move (.tmp 1), []⟩ ::
        ⟨(some 15), none, .lenL (.tmp 14), []⟩ ::
        ⟨(some 16), none, .bin .neq (.tmp 13) (.tmp 15), []⟩ ::
        ⟨(some 17), none, .move (.tmp 16), []⟩ ::
        ⟨(some 18), (some (17, false)), .move (.tmp 5), []⟩ ::
        ⟨(some 19), (some (17, false)), .move (.tmp 1), []⟩ ::
        ⟨(some 20), (some (17, false)), .lenL (.tmp 19), []⟩ ::
        ⟨(some 21), (some (17, false)), .idxA 4 (.tmp 18) (.tmp 20), []⟩ ::
        ⟨(some 22), (some (17, false)), .load true 4 (.tmp 21), []⟩ ::
        ⟨(some 23), (some (17, false)), .build [.v (.string ⟨#[]⟩), .v (.string ⟨#[]⟩), .v (.slice none 0 0), .v (.slice none 0 0)] [(0, 1, (.const (.string ⟨#[126, 114, 111, 111, 109]⟩)))], []⟩ ::
        ⟨(some 24), (some (17, false)), .call 30 [(.tmp 22), (.tmp 23)], []⟩ ::
        ⟨(some 25), (some (17, false)), .un .not (.tmp 24), []⟩ ::
        ⟨(some 26), none, .pick (.tmp 17) (.const (.bool true)) (.tmp 25), []⟩ ::
        ⟨(some 27), none, .move (.tmp 26), []⟩ ::
        ⟨(some 28), (some (27, false)), .move (.tmp 5), []⟩ ::
        ⟨(some 29), (some (27, false)), .move (.tmp 1), []⟩ ::
        ⟨(some 30), (some (27, false)), .lenL (.tmp 29), []⟩ ::
        ⟨(some 31), (some (27, false)), .bin .add (.tmp 30) (.const (.int .i64 1)), []⟩ ::
        ⟨(some 32), (some (27, false)), .idxA 4 (.tmp 28) (.tmp 31), []⟩ ::
        ⟨(some 33), (some (27, false)), .load true 4 (.tmp 32), []⟩ ::
        ⟨(some 34), (some (27, false)), .build [.v (.string ⟨#[]⟩), .v (.string ⟨#[]⟩), .v (.slice none 0 0), .v (.slice none 0 0)] [(0, 1, (.const (.string ⟨#[126, 114, 111, 111, 109]⟩)))], []⟩ ::
        ⟨(some 35), (some (27, false)), .call 30 [(.tmp 33), (.tmp 34)], []⟩ ::
        ⟨(some 36), (some (27, false)), .un .not (.tmp 35), []⟩ ::
        ⟨(some 37), none, .pick (.tmp 27) (.const (.bool true)) (.tmp 36), []⟩ :: []))
      (.cond (.tmp 37)
       (.seq
        (.region [⟨(some 4), none, .move (.const (.bool false)), []⟩])
        .ret)
       .skip))
     (.seq
      (.seq
       (.region [⟨(some 6), none, .move (.const (.int .i64 0)), []⟩])
       (.block 0
        (.loop
         (.seq
          (.seq
           (.region [⟨(some 38), none, .move (.tmp 6), []⟩,
             ⟨(some 39), none, .move (.tmp 1), []⟩,
             ⟨(some 40), none, .lenL (.tmp 39), []⟩,
             ⟨(some 41), none, .bin .lss (.tmp 38) (.tmp 40), []⟩])
           (.cond (.tmp 41)
            .skip
            (.exit 0)))
          (.seq
           (.block 1
            (.seq
             (.draw [⟨(some 44), none, .move (.tmp 0), []⟩,
               ⟨(some 45), none, .move (.tmp 6), []⟩,
               ⟨(some 46), none, .idxA 4 (.tmp 44) (.tmp 45), [0, 1]⟩,
               ⟨(some 47), none, .load true 4 (.tmp 46), [2]⟩,
               ⟨(some 48), none, .move (.tmp 1), []⟩,
               ⟨(some 49), none, .move (.tmp 6), []⟩,
               ⟨(some 50), none, .idxA 4 (.tmp 48) (.tmp 49), [4, 5]⟩,
               ⟨(some 51), none, .load true 4 (.tmp 50), [6]⟩,
               ⟨(some 52), none, .call 31 [(.tmp 47), (.tmp 51)], [3, 7]⟩,
               ⟨(some 53), none, .un .not (.tmp 52), [8]⟩])
             (.cond (.tmp 53)
              (.seq
               (.region [⟨(some 4), none, .move (.const (.bool false)), []⟩])
               .ret)
              .skip)))
           (.region [⟨(some 42), none, .move (.tmp 6), []⟩,
             ⟨(some 43), none, .bin .add (.tmp 42) (.const (.int .i64 1)), []⟩,
             ⟨(some 6), none, .move (.tmp 43), []⟩]))))))
      (.seq
       (.region [⟨(some 4), none, .move (.const (.bool true)), []⟩])
       .ret)))))
theorem is17 : IsFn Tryd.prog 17 54 c17 [.tmp 4] :=
  .of Tryd.func17 rfl Tryd.ntmps17 (by kernel_rfl) (by kernel_rfl)

-- stencil/stencillaw7.awake (params 0)
def c18 : SCode :=
  (.seq
   (.region [⟨(some 0), none, .move (.const (.bool false)), []⟩])
   (.seq
    (.region [⟨(some 5), none, .build [.v (.string ⟨#[]⟩), .v (.string ⟨#[]⟩)] [(0, 1, (.const (.string ⟨#[99, 108, 97, 115, 115]⟩))), (1, 1, (.const (.string ⟨#[97]⟩)))], []⟩,
      ⟨(some 6), none, .buildSl 2 1 [.v (.string ⟨#[]⟩), .v (.string ⟨#[]⟩)] [(0, (.tmp 5))], []⟩,
      ⟨(some 7), none, .build [.v (.string ⟨#[]⟩), .v (.string ⟨#[]⟩), .v (.slice none 0 0), .v (.slice none 0 0)] [(1, 1, (.const (.string ⟨#[120, 60, 121]⟩)))], []⟩,
      ⟨(some 8), none, .build [.v (.string ⟨#[]⟩), .v (.string ⟨#[]⟩), .v (.slice none 0 0), .v (.slice none 0 0)] [(0, 1, (.const (.string ⟨#[98]⟩)))], []⟩,
      ⟨(some 9), none, .buildSl 4 2 [.v (.string ⟨#[]⟩), .v (.string ⟨#[]⟩), .v (.slice none 0 0), .v (.slice none 0 0)] [(0, (.tmp 7)), (1, (.tmp 8))], []⟩,
      ⟨(some 10), none, .build [.v (.string ⟨#[]⟩), .v (.string ⟨#[]⟩), .v (.slice none 0 0), .v (.slice none 0 0)] [(0, 1, (.const (.string ⟨#[112]⟩))), (2, 1, (.tmp 6)), (3, 1, (.tmp 9))], []⟩,
      ⟨(some 11), none, .buildSl 4 1 [.v (.string ⟨#[]⟩), .v (.string ⟨#[]⟩), .v (.slice none 0 0), .v (.slice none 0 0)] [(0, (.tmp 10))], []⟩,
      ⟨(some 1), none, .move (.tmp 11), []⟩])
    (.seq
     (.region [⟨(some 13), none, .move (.tmp 1), []⟩,
       ⟨(some 14), none, .call 11 [(.tmp 13)], []⟩,
       ⟨(some 12), none, .move (.tmp 14), []⟩,
       ⟨(some 15), none, .ext (.tmp 12) 0, []⟩,
       ⟨(some 16), none, .ext (.tmp 12) 1, []⟩,
       ⟨(some 2), none, .move (.tmp 15), []⟩,
       ⟨(some 3), none, .move (.tmp 16), []⟩])
     (.seq
      (.region [⟨(some 17), none, .build [.v (.string ⟨#[]⟩), .v (.string ⟨#[]⟩), .v (.slice none 0 0), .v (.slice none 0 0)] [(0, 1, (.const (.string ⟨#[80]⟩)))], []⟩,
        ⟨(some 18), none, .buildSl 4 1 [.v (.string ⟨#[]⟩), .v (.string ⟨#[]⟩), .v (.slice none 0 0), .v (.slice none 0 0)] [(0, (.tmp 17))], []⟩,
        ⟨(some 19), none, .call 8 [(.tmp 18)], []⟩,
        ⟨(some 4), none, .move (.tmp 19), []⟩])
      (.seq
       (.region (⟨(some 20), none, .move (.tmp 3), []⟩ ::
         ⟨(some 21), none, .call 13 [(.tmp 20)], []⟩ ::
         ⟨(some 22), none, .bin .eql (.tmp 21) (.const (.int .i64 0)), []⟩ ::
         ⟨(some 23), none, .move (.tmp 22), []⟩ ::
         ⟨(some 24), (some (23, true)), .move (.tmp 2), []⟩ ::
         ⟨(some 25), (some (23, true)), .bin .eql (.tmp 24) (.const (.string ⟨#[60, 112, 32, 99, 108, 97, 115, 115, 61, 34, 97, 34, 62, 120, 38, 108, 116, 59, 121, 60, 98, 62, 60, 47, 98, 62, 60, 47, 112, 62]⟩)), []⟩ ::
         ⟨(some 26), none, .pick (.tmp 23) (.tmp 25) (.const (.bool false)), []⟩ ::
         ⟨(some 27), none, .move (.tmp 26), []⟩ ::
         ⟨(some 28), (some (27, true)), .move (.tmp 4), []⟩ ::
         ⟨(some 29), (some (27, true)), .call 13 [(.tmp 28)], []⟩ ::
         ⟨(some 30), (some (27, true)), .bin .eql (.tmp 29) (.const (.int .i64 700)), []⟩ ::
         ⟨(some 31), none, .pick (.tmp 27) (.tmp 30) (.const (.bool false)), []⟩ ::
         ⟨(some 32), none, .move (.tmp 31), []⟩ ::
         ⟨(some 33), (some (32, true)), .move (.tmp 1), []⟩ ::
         ⟨(some 34), (some (32, true)), .call 9 [(.tmp 33)], []⟩ ::
         ⟨(some 35), (some (32, true)), .bin .eql (.tmp 34) (.const (.int .i64 3)), []⟩ ::
         ⟨(some 36), none, .pick (.tmp 32) (.tmp 35) (.const (.bool false)), []⟩ ::
         ⟨(some 37), none, .move (.tmp 36), []⟩ ::
         ⟨(some 38), (some (37, true)), .move (.tmp 1), []⟩ ::
         ⟨(some 39), (some (37, true)), .call 10 [(.tmp 38)], []⟩ ::
         ⟨(some 40), (some (37, true)), .bin .eql (.tmp 39) (.const (.int .i64 2)), []⟩ ::
         ⟨(some 41), none, .pick (.tmp 37) (.tmp 40) (.const (.bool false)), []⟩ ::
         ⟨(some 42), none, .move (.tmp 41), []⟩ ::
         ⟨(some 43), (some (42, true)), .move (.tmp 1), []⟩ ::
         ⟨(some 44), (some (42, true)), .move (.tmp 1), []⟩ ::
         ⟨(some 45), (some (42, true)), .call 19 [(.tmp 43), (.tmp 44)], []⟩ ::
         ⟨(some 46), none, .pick (.tmp 42) (.tmp 45) (.const (.bool false)), []⟩ ::
         ⟨(some 47), none, .move (.tmp 46), []⟩ ::
         ⟨(some 48), (some (47, true)), .move (.tmp 1), []⟩ ::
         ⟨(some 49), (some (47, true)), .call 19 [(.tmp 48), (.const (.slice none 0 0))], []⟩ ::
         ⟨(some 50), (some (47, true)), .un .not (.tmp 49), []⟩ ::
         ⟨(some 51), none, .pick (.tmp 47) (.tmp 50) (.const (.bool false)), []⟩ ::
         ⟨(some 0), none, .move (.tmp 51), []⟩ :: []))
       .ret)))))
theorem is18 : IsFn Tryd.prog 18 52 c18 [.tmp 0] :=
  .of Tryd.func18 rfl Tryd.ntmps18 (by kernel_rfl) (by kernel_rfl)

-- stencil/forest.Same (params 2)
def c19 : SCode :=
  (.seq
   (.region [⟨(some 4), none, .move (.const (.bool false)), []⟩])
   (.seq
    (.region [⟨(some 10), none, .move (.tmp 0), []⟩,
      ⟨(some 11), none, .move (.tmp 1), []⟩,
      ⟨(some 12), none, .build [.v (.slice none 0 0), .v (.slice none 0 0)] [(0, 1, (.tmp 10)), (1, 1, (.tmp 11))], []⟩,
      ⟨(some 13), none, .buildSl 2 1 [.v (.slice none 0 0), .v (.slice none 0 0)] [(0, (.tmp 12))], []⟩,
      ⟨(some 5), none, .move (.tmp 13), []⟩])
    (.seq
     (.block 0
      (.loop
       (.seq
        (.seq
         (.region [⟨(some 14), none, .move (.tmp 5), []⟩,
           ⟨(some 15), none, .lenL (.tmp 14), []⟩,
           ⟨(some 16), none, .bin .gtr (.tmp 15) (.const (.int .i64 0)), []⟩])
         (.cond (.tmp 16)
          .skip
          (.exit 0)))
        (.block 1
         (.seq
          (.region [⟨(some 17), none, .move (.tmp 5), []⟩,
            ⟨(some 18), none, .move (.tmp 5), []⟩,
            ⟨(some 19), none, .lenL (.tmp 18), []⟩,
            ⟨(some 20), none, .bin .sub (.tmp 19) (.const (.int .i64 1)), []⟩,
            ⟨(some 21), none, .idxA 2 (.tmp 17) (.tmp 20), []⟩,
            ⟨(some 22), none, .load true 2 (.tmp 21), []⟩,
            ⟨(some 6), none, .alloc 56 [.v (.slice none 0 0), .v (.slice none 0 0)], []⟩,
            ⟨none, none, .store 2 (.tmp 6) (.tmp 22), []⟩])
          (.seq
           (.region [⟨(some 23), none, .move (.tmp 5), []⟩,
             ⟨(some 24), none, .move (.tmp 5), []⟩,
             ⟨(some 25), none, .lenL (.tmp 24), []⟩,
             ⟨(some 26), none, .bin .sub (.tmp 25) (.const (.int .i64 1)), []⟩,
             ⟨(some 27), none, .slL 2 (.tmp 23) none (some (.tmp 26)) none, []⟩,
             ⟨(some 5), none, .move (.tmp 27), []⟩])
           (.seq
            (.seq
             (.region [⟨(some 28), none, .fld 0 (.tmp 6), []⟩,
               ⟨(some 29), none, .load false 1 (.tmp 28), []⟩,
               ⟨(some 30), none, .lenL (.tmp 29), []⟩,
               ⟨(some 31), none, .fld 1 (.tmp 6), []⟩,
               ⟨(some 32), none, .load false 1 (.tmp 31), []⟩,
               ⟨(some 33), none, .lenL (.tmp 32), []⟩,
               ⟨(some 34), none, .bin .neq (.tmp 30) (.tmp 33), []⟩])
             (.cond (.tmp 34)
              (.seq
               (.region [⟨(some 4), none, .move (.const (.bool false)), []⟩])
               .ret)
              .skip))
            (.seq
             (.region [⟨(some 35), none, .fld 0 (.tmp 6), []⟩,
               ⟨(some 36), none, .load false 1 (.tmp 35), []⟩,
               ⟨(some 37), none, .lenL (.tmp 36), []⟩,
               ⟨(some 38), none, .move (.const (.int .i64 0)), []⟩])
             (.block 2
              (.loop
               (.seq
                (.region [⟨(some 39), none, .bin .lss (.tmp 38) (.tmp 37), []⟩])
                (.seq
                 (.cond (.tmp 39)
                  .skip
                  (.exit 2))
                 (.seq
                  (.block 3
                   (.seq
                    (.region [⟨(some 40), none, .move (.tmp 38), []⟩,
                      ⟨(some 7), none, .move (.tmp 40), []⟩])
                    (.seq
                     (.draw [⟨(some 41), none, .fld 0 (.tmp 6), []⟩,
                       ⟨(some 42), none, .load false 1 (.tmp 41), [0]⟩,
                       ⟨(some 43), none, .move (.tmp 7), []⟩,
                       ⟨(some 44), none, .idxA 4 (.tmp 42) (.tmp 43), [1, 2]⟩,
                       ⟨(some 45), none, .fld 1 (.tmp 6), []⟩,
                       ⟨(some 46), none, .load false 1 (.tmp 45), [4]⟩,
                       ⟨(some 47), none, .move (.tmp 7), []⟩,
                       ⟨(some 48), none, .idxA 4 (.tmp 46) (.tmp 47), [5, 6]⟩,
                       ⟨(some 8), none, .move (.tmp 44), [3, 0, 1, 2, 3]⟩,
                       ⟨(some 9), none, .move (.tmp 48), [7, 8, 0, 1, 2, 3, 4, 5, 6, 7, 8]⟩])
                     (.seq
                      (.seq
                       (.draw (⟨(some 49), none, .move (.tmp 8), []⟩ ::
                         ⟨(some 50), none, .nilChk (.tmp 49), [0]⟩ ::
                         ⟨(some 51), none, .fld 0 (.tmp 50), [1]⟩ ::
                         ⟨(some 52), none, .load false 1 (.tmp 51), [2]⟩ ::
                         ⟨(some 53), none, .move (.tmp 9), []⟩ ::
                         ⟨(some 54), none, .nilChk (.tmp 53), [4]⟩ ::
                         ⟨(some 55), none, .fld 0 (.tmp 54), [5]⟩ ::
                         ⟨(some 56), none, .load false 1 (.tmp 55), [6]⟩ ::
                         ⟨(some 57), none, .bin .neq (.tmp 52) (.tmp 56), [3, 7]⟩ ::
                         ⟨(some 58), none, .move (.tmp 57), [8]⟩ ::
                         ⟨(some 59), (some (58, false)), .move (.tmp 8), [9]⟩ ::
                         ⟨(some 60), (some (58, false)), .nilChk (.tmp 59), [10, 9]⟩ ::
                         ⟨(some 61), (some (58, false)), .fld 1 (.tmp 60), [11, 9]⟩ ::
                         ⟨(some 62), (some (58, false)), .load false 1 (.tmp 61), [12, 9]⟩ ::
                         ⟨(some 63), (some (58, false)), .move (.tmp 9), [9]⟩ ::
                         ⟨(some 64), (some (58, false)), .nilChk (.tmp 63), [14, 9]⟩ ::
                         ⟨(some 65), (some (58, false)), .fld 1 (.tmp 64), [15, 9]⟩ ::
                         ⟨(some 66), (some (58, false)), .load false 1 (.tmp 65), [16, 9]⟩ ::
                         ⟨(some 67), (some (58, false)), .bin .neq (.tmp 62) (.tmp 66), [13, 17, 9]⟩ ::
                         ⟨(some 68), none, .pick (.tmp 58) (.const (.bool true)) (.tmp 67), [9, 18]⟩ ::
                         ⟨(some 69), none, .move (.tmp 68), [19, 9]⟩ ::
                         ⟨(some 70), (some (69, false)), .move (.tmp 8), [20]⟩ ::
                         ⟨(some 71), (some (69, false)), .nilChk (.tmp 70), [21, 20]⟩ ::
                         ⟨(some 72), (some (69, false)), .fld 2 (.tmp 71), [22, 20]⟩ ::
                         ⟨(some 73), (some (69, false)), .load false 1 (.tmp 72), [23, 20]⟩ ::
                         ⟨(some 74), (some (69, false)), .move (.tmp 9), [20]⟩ ::
                         ⟨(some 75), (some (69, false)), .nilChk (.tmp 74), [25, 20]⟩ ::
                         ⟨(some 76), (some (69, false)), .fld 2 (.tmp 75), [26, 20]⟩ ::
                         ⟨(some 77), (some (69, false)), .load false 1 (.tmp 76), [27, 20]⟩ ::
                         ⟨(some 78), (some (69, false)), .call 32 [(.tmp 73), (.tmp 77)], [24, 28, 20, 20]⟩ ::
                         ⟨(some 79), (some (69, false)), .un .not (.tmp 78), [29, 20]⟩ ::
                         ⟨(some 80), none, .pick (.tmp 69) (.const (.bool true)) (.tmp 79), [20, 30]⟩ :: []))
                       (.cond (.tmp 80)
                        (.seq
                         (.region [⟨(some 4), none, .move (.const (.bool false)), []⟩])
                         .ret)
                        .skip))
                      (.draw [⟨(some 81), none, .move (.tmp 5), []⟩,
                        ⟨(some 82), none, .move (.tmp 8), []⟩,
                        ⟨(some 83), none, .nilChk (.tmp 82), [1]⟩,
                        ⟨(some 84), none, .fld 3 (.tmp 83), [2]⟩,
                        ⟨(some 85), none, .load false 1 (.tmp 84), [3]⟩,
                        ⟨(some 86), none, .move (.tmp 9), []⟩,
                        ⟨(some 87), none, .nilChk (.tmp 86), [5]⟩,
                        ⟨(some 88), none, .fld 3 (.tmp 87), [6]⟩,
                        ⟨(some 89), none, .load false 1 (.tmp 88), [7]⟩,
                        ⟨(some 90), none, .build [.v (.slice none 0 0), .v (.slice none 0 0)] [(0, 1, (.tmp 85)), (1, 1, (.tmp 89))], [4, 8]⟩,
                        ⟨(some 91), none, .buildSl 2 1 [.v (.slice none 0 0), .v (.slice none 0 0)] [(0, (.tmp 90))], [9]⟩,
                        ⟨(some 92), none, .app 56 2 48 (.tmp 81) (.tmp 91), [0, 10]⟩,
                        ⟨(some 5), none, .move (.tmp 92), [11, 11, 0, 1, 2, 3, 4, 5, 6, 7, 8, 9, 10, 11]⟩])))))
                  (.region [⟨(some 93), none, .bin .add (.tmp 38) (.const (.int .i64 1)), []⟩,
                    ⟨(some 38), none, .move (.tmp 93), []⟩]))))))))))))))
     (.seq
      (.region [⟨(some 4), none, .move (.const (.bool true)), []⟩])
      .ret))))
theorem is19 : IsFn Tryd.prog 19 94 c19 [.tmp 4] :=
  .of Tryd.func19 rfl Tryd.ntmps19 (by kernel_rfl) (by kernel_rfl)

-- stencil/stencilref7.Same (params 2)
def c20 : SCode :=
  (.seq
   (.region [⟨(some 4), none, .move (.const (.bool false)), []⟩])
   (.seq
    (.seq
     (.region [⟨(some 7), none, .move (.tmp 0), []⟩,
       ⟨(some 8), none, .lenL (.tmp 7), []⟩,
       ⟨(some 9), none, .move (.tmp 1), []⟩,
       ⟨(some 10), none, .lenL (.tmp 9), []⟩,
       ⟨(some 11), none, .bin .neq (.tmp 8) (.tmp 10), []⟩])
     (.cond (.tmp 11)
      (.seq
       (.region [⟨(some 4), none, .move (.const (.bool false)), []⟩])
       .ret)
      .skip))
    (.seq
     (.seq
      (.region [⟨(some 5), none, .move (.const (.int .i64 0)), []⟩])
      (.block 0
       (.loop
        (.seq
         (.seq
          (.region [⟨(some 12), none, .move (.tmp 5), []⟩,
            ⟨(some 13), none, .move (.tmp 0), []⟩,
            ⟨(some 14), none, .lenL (.tmp 13), []⟩,
            ⟨(some 15), none, .bin .lss (.tmp 12) (.tmp 14), []⟩])
          (.cond (.tmp 15)
           .skip
           (.exit 0)))
         (.seq
          (.block 1
           (.seq
            (.seq
             (.draw (⟨(some 18), none, .move (.tmp 0), []⟩ ::
               ⟨(some 19), none, .move (.tmp 5), []⟩ ::
               ⟨(some 20), none, .idxA 4 (.tmp 18) (.tmp 19), [0, 1]⟩ ::
               ⟨(some 21), none, .fld 0 (.tmp 20), [2]⟩ ::
               ⟨(some 22), none, .load false 1 (.tmp 21), [3]⟩ ::
               ⟨(some 23), none, .move (.tmp 1), []⟩ ::
               ⟨(some 24), none, .move (.tmp 5), []⟩ ::
               ⟨(some 25), none, .idxA 4 (.tmp 23) (.tmp 24), [5, 6]⟩ ::
               ⟨(some 26), none, .fld 0 (.tmp 25), [7]⟩ ::
               ⟨(some 27), none, .load false 1 (.tmp 26), [8]⟩ ::
               ⟨(some 28), none, .bin .neq (.tmp 22) (.tmp 27), [4, 9]⟩ ::
               ⟨(some 29), none, .move (.tmp 28), [10]⟩ ::
               ⟨(some 30), (some (29, false)), .move (.tmp 0), [11]⟩ ::
               ⟨(some 31), (some (29, false)), .move (.tmp 5), [11]⟩ ::
               ⟨(some 32), (some (29, false)), .idxA 4 (.tmp 30) (.tmp 31), [12, 13, 11]⟩ ::
               ⟨(some 33), (some (29, false)), .fld 1 (.tmp 32), [14, 11]⟩ ::
               ⟨(some 34), (some (29, false)), .load false 1 (.tmp 33), [15, 11]⟩ ::
               ⟨(some 35), (some (29, false)), .move (.tmp 1), [11]⟩ ::
               ⟨(some 36), (some (29, false)), .move (.tmp 5), [11]⟩ ::
               ⟨(some 37), (some (29, false)), .idxA 4 (.tmp 35) (.tmp 36), [17, 18, 11]⟩ ::
               ⟨(some 38), (some (29, false)), .fld 1 (.tmp 37), [19, 11]⟩ ::
               ⟨(some 39), (some (29, false)), .load false 1 (.tmp 38), [20, 11]⟩ ::
               ⟨(some 40), (some (29, false)), .bin .neq (.tmp 34) (.tmp 39), [16, 21, 11]⟩ ::
               ⟨(some 41), none, .pick (.tmp 29) (.const (.bool true)) (.tmp 40), [11, 22]⟩ ::
               ⟨(some 42), none, .move (.tmp 41), [23, 11]⟩ ::
               ⟨(some 43), (some (42, false)), .move (.tmp 0), [24]⟩ ::
               ⟨(some 44), (some (42, false)), .move (.tmp 5), [24]⟩ ::
               ⟨(some 45), (some (42, false)), .idxA 4 (.tmp 43) (.tmp 44), [25, 26, 24]⟩ ::
               ⟨(some 46), (some (42, false)), .fld 2 (.tmp 45), [27, 24]⟩ ::
               ⟨(some 47), (some (42, false)), .load false 1 (.tmp 46), [28, 24]⟩ ::
               ⟨(some 48), (some (42, false)), .lenL (.tmp 47), [29, 24]⟩ ::
               ⟨(some 49), (some (42, false)), .move (.tmp 1), [24]⟩ ::
               ⟨(some 50), (some (42, false)), .move (.tmp 5), [24]⟩ ::
               ⟨(some 51), (some (42, false)), .idxA 4 (.tmp 49) (.tmp 50), [31, 32, 24]⟩ ::
               ⟨(some 52), (some (42, false)), .fld 2 (.tmp 51), [33, 24]⟩ ::
               ⟨(some 53), (some (42, false)), .load false 1 (.tmp 52), [34, 24]⟩ ::
               ⟨(some 54), (some (42, false)), .lenL (.tmp 53), [35, 24]⟩ ::
               ⟨(some 55), (some (42, false)), .bin .neq (.tmp 48) (.tmp 54), [30, 36, 24]⟩ ::
               ⟨(some 56), none, .pick (.tmp 42) (.const (.bool true)) (.tmp 55), [24, 37]⟩ :: []))
             (.cond (.tmp 56)
              (.seq
               (.region [⟨(some 4), none, .move (.const (.bool false)), []⟩])
               .ret)
              .skip))
            (.seq
             (.seq
              (.region [⟨(some 6), none, .move (.const (.int .i64 0)), []⟩])
              (.block 2
               (.loop
                (.seq
                 (.seq
                  (.region [⟨(some 57), none, .move (.tmp 6), []⟩,
                    ⟨(some 58), none, .move (.tmp 0), []⟩,
                    ⟨(some 59), none, .move (.tmp 5), []⟩,
                    ⟨(some 60), none, .idxA 4 (.tmp 58) (.tmp 59), []⟩,
                    ⟨(some 61), none, .fld 2 (.tmp 60), []⟩,
                    ⟨(some 62), none, .load false 1 (.tmp 61), []⟩,
                    ⟨(some 63), none, .lenL (.tmp 62), []⟩,
                    ⟨(some 64), none, .bin .lss (.tmp 57) (.tmp 63), []⟩])
                  (.cond (.tmp 64)
                   .skip
                   (.exit 2)))
                 (.seq
                  (.block 3
                   (.seq
                    (.draw [⟨(some 67), none, .move (.tmp 0), []⟩,
                      ⟨(some 68), none, .move (.tmp 5), []⟩,
                      ⟨(some 69), none, .idxA 4 (.tmp 67) (.tmp 68), [0, 1]⟩,
                      ⟨(some 70), none, .fld 2 (.tmp 69), [2]⟩,
                      ⟨(some 71), none, .load false 1 (.tmp 70), [3]⟩,
                      ⟨(some 72), none, .move (.tmp 6), []⟩,
                      ⟨(some 73), none, .idxA 2 (.tmp 71) (.tmp 72), [4, 5]⟩,
                      ⟨(some 74), none, .load true 2 (.tmp 73), [6]⟩,
                      ⟨(some 75), none, .move (.tmp 1), []⟩,
                      ⟨(some 76), none, .move (.tmp 5), []⟩,
                      ⟨(some 77), none, .idxA 4 (.tmp 75) (.tmp 76), [8, 9]⟩,
                      ⟨(some 78), none, .fld 2 (.tmp 77), [10]⟩,
                      ⟨(some 79), none, .load false 1 (.tmp 78), [11]⟩,
                      ⟨(some 80), none, .move (.tmp 6), []⟩,
                      ⟨(some 81), none, .idxA 2 (.tmp 79) (.tmp 80), [12, 13]⟩,
                      ⟨(some 82), none, .load true 2 (.tmp 81), [14]⟩,
                      ⟨(some 83), none, .eqF .neq [1, 1] (.tmp 74) (.tmp 82), [7, 15]⟩])
                    (.cond (.tmp 83)
                     (.seq
                      (.region [⟨(some 4), none, .move (.const (.bool false)), []⟩])
                      .ret)
                     .skip)))
                  (.region [⟨(some 65), none, .move (.tmp 6), []⟩,
                    ⟨(some 66), none, .bin .add (.tmp 65) (.const (.int .i64 1)), []⟩,
                    ⟨(some 6), none, .move (.tmp 66), []⟩]))))))
             (.seq
              (.draw [⟨(some 84), none, .move (.tmp 0), []⟩,
                ⟨(some 85), none, .move (.tmp 5), []⟩,
                ⟨(some 86), none, .idxA 4 (.tmp 84) (.tmp 85), [0, 1]⟩,
                ⟨(some 87), none, .fld 3 (.tmp 86), [2]⟩,
                ⟨(some 88), none, .load false 1 (.tmp 87), [3]⟩,
                ⟨(some 89), none, .move (.tmp 1), []⟩,
                ⟨(some 90), none, .move (.tmp 5), []⟩,
                ⟨(some 91), none, .idxA 4 (.tmp 89) (.tmp 90), [5, 6]⟩,
                ⟨(some 92), none, .fld 3 (.tmp 91), [7]⟩,
                ⟨(some 93), none, .load false 1 (.tmp 92), [8]⟩,
                ⟨(some 94), none, .call 20 [(.tmp 88), (.tmp 93)], [4, 9]⟩,
                ⟨(some 95), none, .un .not (.tmp 94), [10]⟩])
              (.cond (.tmp 95)
               (.seq
                (.region [⟨(some 4), none, .move (.const (.bool false)), []⟩])
                .ret)
               .skip)))))
          (.region [⟨(some 16), none, .move (.tmp 5), []⟩,
            ⟨(some 17), none, .bin .add (.tmp 16) (.const (.int .i64 1)), []⟩,
            ⟨(some 5), none, .move (.tmp 17), []⟩]))))))
     (.seq
      (.region [⟨(some 4), none, .move (.const (.bool true)), []⟩])
      .ret))))
theorem is20 : IsFn Tryd.prog 20 96 c20 [.tmp 4] :=
  .of Tryd.func20 rfl Tryd.ntmps20 (by kernel_rfl) (by kernel_rfl)

-- stencil/stencillaw0.CopyTrees (params 1)
def c21 : SCode :=
  (.seq
   (.region [⟨(some 2), none, .move (.const (.slice none 0 0)), []⟩])
   (.seq
    (.region [⟨(some 3), none, .move (.const (.slice none 0 0)), []⟩])
    (.seq
     (.seq
      (.region [⟨(some 4), none, .move (.const (.int .i64 0)), []⟩])
      (.block 0
       (.loop
        (.seq
         (.seq
          (.region [⟨(some 5), none, .move (.tmp 4), []⟩,
            ⟨(some 6), none, .move (.tmp 0), []⟩,
            ⟨(some 7), none, .lenL (.tmp 6), []⟩,
            ⟨(some 8), none, .bin .lss (.tmp 5) (.tmp 7), []⟩])
          (.cond (.tmp 8)
           .skip
           (.exit 0)))
         (.seq
          (.block 1
           (.region [⟨(some 11), none, .move (.tmp 3), []⟩,
             ⟨(some 12), none, .move (.tmp 0), []⟩,
             ⟨(some 13), none, .move (.tmp 4), []⟩,
             ⟨(some 14), none, .idxA 4 (.tmp 12) (.tmp 13), []⟩,
             ⟨(some 15), none, .load true 4 (.tmp 14), []⟩,
             ⟨(some 16), none, .call 33 [(.tmp 15)], []⟩,
             ⟨(some 17), none, .buildSl 4 1 [.v (.string ⟨#[]⟩), .v (.string ⟨#[]⟩), .v (.slice none 0 0), .v (.slice none 0 0)] [(0, (.tmp 16))], []⟩,
             ⟨(some 18), none, .app 37 4 80 (.tmp 11) (.tmp 17), []⟩,
             ⟨(some 3), none, .move (.tmp 18), []⟩]))
          (.region [⟨(some 9), none, .move (.tmp 4), []⟩,
            ⟨(some 10), none, .bin .add (.tmp 9) (.const (.int .i64 1)), []⟩,
            ⟨(some 4), none, .move (.tmp 10), []⟩]))))))
     (.seq
      (.region [⟨(some 19), none, .move (.tmp 3), []⟩,
        ⟨(some 2), none, .move (.tmp 19), []⟩])
      .ret))))
theorem is21 : IsFn Tryd.prog 21 20 c21 [.tmp 2] :=
  .of Tryd.func21 rfl Tryd.ntmps21 (by kernel_rfl) (by kernel_rfl)

-- stencil/stencillaw0.trees (params 2)
def c22 : SCode :=
  (.seq
   (.region [⟨(some 4), none, .move (.const (.bool false)), []⟩])
   (.seq
    (.seq
     (.region [⟨(some 6), none, .move (.tmp 1), []⟩,
       ⟨(some 7), none, .bin .eql (.tmp 6) (.const (.int .i64 0)), []⟩])
     (.cond (.tmp 7)
      (.seq
       (.region [⟨(some 8), none, .move (.tmp 0), []⟩,
         ⟨(some 9), none, .lenL (.tmp 8), []⟩,
         ⟨(some 10), none, .bin .eql (.tmp 9) (.const (.int .i64 0)), []⟩,
         ⟨(some 4), none, .move (.tmp 10), []⟩])
       .ret)
      .skip))
    (.seq
     (.seq
      (.region [⟨(some 5), none, .move (.const (.int .i64 0)), []⟩])
      (.block 0
       (.loop
        (.seq
         (.seq
          (.region [⟨(some 11), none, .move (.tmp 5), []⟩,
            ⟨(some 12), none, .move (.tmp 0), []⟩,
            ⟨(some 13), none, .lenL (.tmp 12), []⟩,
            ⟨(some 14), none, .bin .lss (.tmp 11) (.tmp 13), []⟩])
          (.cond (.tmp 14)
           .skip
           (.exit 0)))
         (.seq
          (.block 1
           (.seq
            (.region [⟨(some 17), none, .move (.tmp 0), []⟩,
              ⟨(some 18), none, .move (.tmp 5), []⟩,
              ⟨(some 19), none, .idxA 4 (.tmp 17) (.tmp 18), []⟩,
              ⟨(some 20), none, .fld 3 (.tmp 19), []⟩,
              ⟨(some 21), none, .load false 1 (.tmp 20), []⟩,
              ⟨(some 22), none, .move (.tmp 1), []⟩,
              ⟨(some 23), none, .bin .sub (.tmp 22) (.const (.int .i64 1)), []⟩,
              ⟨(some 24), none, .call 22 [(.tmp 21), (.tmp 23)], []⟩,
              ⟨(some 25), none, .un .not (.tmp 24), []⟩])
            (.cond (.tmp 25)
             (.seq
              (.region [⟨(some 4), none, .move (.const (.bool false)), []⟩])
              .ret)
             .skip)))
          (.region [⟨(some 15), none, .move (.tmp 5), []⟩,
            ⟨(some 16), none, .bin .add (.tmp 15) (.const (.int .i64 1)), []⟩,
            ⟨(some 5), none, .move (.tmp 16), []⟩]))))))
     (.seq
      (.region [⟨(some 4), none, .move (.const (.bool true)), []⟩])
      .ret))))
theorem is22 : IsFn Tryd.prog 22 26 c22 [.tmp 4] :=
  .of Tryd.func22 rfl Tryd.ntmps22 (by kernel_rfl) (by kernel_rfl)

-- stencil/stencillaw0.LendTree (params 1)
def c23 : SCode :=
  (.seq
   (.region [⟨(some 1), none, .box 37 (.tmp 0), []⟩,
     ⟨(some 2), none, .alloc 37 [.v (.string ⟨#[]⟩), .v (.string ⟨#[]⟩), .v (.slice none 0 0), .v (.slice none 0 0)], []⟩])
   (.seq
    (.region [⟨(some 3), none, .fld 2 (.tmp 1), []⟩,
      ⟨(some 4), none, .load false 1 (.tmp 3), []⟩,
      ⟨(some 5), none, .call 34 [(.tmp 4)], []⟩,
      ⟨(some 6), none, .fld 2 (.tmp 1), []⟩,
      ⟨none, none, .store 1 (.tmp 6) (.tmp 5), []⟩])
    (.seq
     (.region [⟨(some 7), none, .fld 3 (.tmp 1), []⟩,
       ⟨(some 8), none, .load false 1 (.tmp 7), []⟩,
       ⟨(some 9), none, .call 7 [(.tmp 8)], []⟩,
       ⟨(some 10), none, .fld 3 (.tmp 1), []⟩,
       ⟨none, none, .store 1 (.tmp 10) (.tmp 9), []⟩])
     (.seq
      (.region [⟨(some 11), none, .load true 4 (.tmp 1), []⟩,
        ⟨none, none, .store 4 (.tmp 2) (.tmp 11), []⟩])
      .ret))))
theorem is23 : IsFn Tryd.prog 23 12 c23 [.cell true 4 2] :=
  .of Tryd.func23 rfl Tryd.ntmps23 (by kernel_rfl) (by kernel_rfl)

-- stencil/forest.looked (params 1)
def c24 : SCode :=
  (.seq
   (.region [⟨(some 2), none, .alloc 41 [.v (.int .i64 0), .v (.int .i64 0), .v (.int .i64 0)], []⟩])
   (.seq
    (.region [⟨(some 3), none, .alloc 41 [.v (.int .i64 0), .v (.int .i64 0), .v (.int .i64 0)], []⟩])
    (.seq
     (.seq
      (.region [⟨(some 4), none, .move (.tmp 0), []⟩,
        ⟨(some 5), none, .call 35 [(.tmp 4), (.const (.int .i64 1)), (.tmp 3)], []⟩,
        ⟨(some 6), none, .un .not (.tmp 5), []⟩])
      (.cond (.tmp 6)
       (.seq
        (.region [⟨(some 7), none, .fld 2 (.tmp 3), []⟩,
          ⟨(some 8), none, .load false 1 (.tmp 7), []⟩,
          ⟨(some 9), none, .build [.v (.int .i64 0), .v (.int .i64 0), .v (.int .i64 0)] [(2, 1, (.tmp 8))], []⟩,
          ⟨none, none, .store 3 (.tmp 2) (.tmp 9), []⟩])
        .ret)
       .skip))
     (.seq
      (.region [⟨(some 10), none, .load true 3 (.tmp 3), []⟩,
        ⟨none, none, .store 3 (.tmp 2) (.tmp 10), []⟩])
      .ret))))
theorem is24 : IsFn Tryd.prog 24 11 c24 [.cell true 3 2] :=
  .of Tryd.func24 rfl Tryd.ntmps24 (by kernel_rfl) (by kernel_rfl)

-- stencil/forest.write (params 2)
def c25 : SCode :=
  (.seq
   (.region [⟨(some 8), none, .move (.tmp 1), []⟩,
     ⟨(some 9), none, .lenL (.tmp 8), []⟩,
     ⟨(some 10), none, .move (.const (.int .i64 0)), []⟩])
   (.block 0
    (.loop
     (.seq
      (.region [⟨(some 11), none, .bin .lss (.tmp 10) (.tmp 9), []⟩])
      (.seq
       (.cond (.tmp 11)
        .skip
        (.exit 0))
       (.seq
        (.block 1
         (.seq
          (.region [⟨(some 12), none, .move (.tmp 10), []⟩,
            ⟨(some 4), none, .move (.tmp 12), []⟩])
          (.seq
           (.region [⟨(some 13), none, .move (.tmp 1), []⟩,
             ⟨(some 14), none, .move (.tmp 4), []⟩,
             ⟨(some 15), none, .idxA 4 (.tmp 13) (.tmp 14), []⟩,
             ⟨(some 5), none, .move (.tmp 15), []⟩])
           (.seq
            (.seq
             (.region [⟨(some 16), none, .move (.tmp 5), []⟩,
               ⟨(some 17), none, .nilChk (.tmp 16), []⟩,
               ⟨(some 18), none, .fld 0 (.tmp 17), []⟩,
               ⟨(some 19), none, .load false 1 (.tmp 18), []⟩,
               ⟨(some 20), none, .bin .eql (.tmp 19) (.const (.string ⟨#[]⟩)), []⟩])
             (.cond (.tmp 20)
              (.seq
               (.region [⟨(some 21), none, .move (.tmp 0), []⟩,
                 ⟨(some 22), none, .move (.tmp 5), []⟩,
                 ⟨(some 23), none, .nilChk (.tmp 22), []⟩,
                 ⟨(some 24), none, .fld 1 (.tmp 23), []⟩,
                 ⟨(some 25), none, .load false 1 (.tmp 24), []⟩,
                 ⟨(some 26), none, .call 37 [(.tmp 25)], []⟩,
                 ⟨(some 27), none, .call 36 [(.tmp 21), (.tmp 26)], []⟩])
               (.exit 1))
              .skip))
            (.seq
             (.region [⟨(some 28), none, .move (.tmp 0), []⟩,
               ⟨(some 29), none, .move (.tmp 5), []⟩,
               ⟨(some 30), none, .nilChk (.tmp 29), []⟩,
               ⟨(some 31), none, .fld 0 (.tmp 30), []⟩,
               ⟨(some 32), none, .load false 1 (.tmp 31), []⟩,
               ⟨(some 33), none, .bin .add (.const (.string ⟨#[60]⟩)) (.tmp 32), []⟩,
               ⟨(some 34), none, .call 36 [(.tmp 28), (.tmp 33)], []⟩])
             (.seq
              (.seq
               (.region [⟨(some 35), none, .move (.tmp 5), []⟩,
                 ⟨(some 36), none, .nilChk (.tmp 35), []⟩,
                 ⟨(some 37), none, .fld 2 (.tmp 36), []⟩,
                 ⟨(some 38), none, .load false 1 (.tmp 37), []⟩,
                 ⟨(some 39), none, .lenL (.tmp 38), []⟩,
                 ⟨(some 40), none, .move (.const (.int .i64 0)), []⟩])
               (.block 2
                (.loop
                 (.seq
                  (.region [⟨(some 41), none, .bin .lss (.tmp 40) (.tmp 39), []⟩])
                  (.seq
                   (.cond (.tmp 41)
                    .skip
                    (.exit 2))
                   (.seq
                    (.block 3
                     (.seq
                      (.region [⟨(some 42), none, .idxA 2 (.tmp 38) (.tmp 40), []⟩,
                        ⟨(some 43), none, .load true 2 (.tmp 42), []⟩,
                        ⟨(some 7), none, .alloc 54 [.v (.string ⟨#[]⟩), .v (.string ⟨#[]⟩)], []⟩,
                        ⟨none, none, .store 2 (.tmp 7) (.tmp 43), []⟩])
                      (.draw [⟨(some 44), none, .move (.tmp 0), []⟩,
                        ⟨(some 45), none, .fld 0 (.tmp 7), []⟩,
                        ⟨(some 46), none, .load false 1 (.tmp 45), [1]⟩,
                        ⟨(some 47), none, .bin .add (.const (.string ⟨#[32]⟩)) (.tmp 46), [2]⟩,
                        ⟨(some 48), none, .bin .add (.tmp 47) (.const (.string ⟨#[61, 34]⟩)), [3]⟩,
                        ⟨(some 49), none, .fld 1 (.tmp 7), []⟩,
                        ⟨(some 50), none, .load false 1 (.tmp 49), [5]⟩,
                        ⟨(some 51), none, .call 38 [(.tmp 50)], [6]⟩,
                        ⟨(some 52), none, .bin .add (.tmp 48) (.tmp 51), [4, 7]⟩,
                        ⟨(some 53), none, .bin .add (.tmp 52) (.const (.string ⟨#[34]⟩)), [8]⟩,
                        ⟨(some 54), none, .call 36 [(.tmp 44), (.tmp 53)], [0, 9, 7]⟩])))
                    (.region [⟨(some 55), none, .bin .add (.tmp 40) (.const (.int .i64 1)), []⟩,
                      ⟨(some 40), none, .move (.tmp 55), []⟩])))))))
              (.seq
               (.region [⟨(some 56), none, .move (.tmp 0), []⟩,
                 ⟨(some 57), none, .call 39 [(.tmp 56), (.const (.int .u8 62))], []⟩])
               (.seq
                (.region [⟨(some 58), none, .move (.tmp 0), []⟩,
                  ⟨(some 59), none, .move (.tmp 5), []⟩,
                  ⟨(some 60), none, .nilChk (.tmp 59), []⟩,
                  ⟨(some 61), none, .fld 3 (.tmp 60), []⟩,
                  ⟨(some 62), none, .load false 1 (.tmp 61), []⟩,
                  ⟨(some 63), none, .call 25 [(.tmp 58), (.tmp 62)], []⟩])
                (.region [⟨(some 64), none, .move (.tmp 0), []⟩,
                  ⟨(some 65), none, .move (.tmp 5), []⟩,
                  ⟨(some 66), none, .nilChk (.tmp 65), []⟩,
                  ⟨(some 67), none, .fld 0 (.tmp 66), []⟩,
                  ⟨(some 68), none, .load false 1 (.tmp 67), []⟩,
                  ⟨(some 69), none, .bin .add (.const (.string ⟨#[60, 47]⟩)) (.tmp 68), []⟩,
                  ⟨(some 70), none, .bin .add (.tmp 69) (.const (.string ⟨#[62]⟩)), []⟩,
                  ⟨(some 71), none, .call 36 [(.tmp 64), (.tmp 70)], []⟩])))))))))
        (.region [⟨(some 72), none, .bin .add (.tmp 10) (.const (.int .i64 1)), []⟩,
          ⟨(some 10), none, .move (.tmp 72), []⟩])))))))
theorem is25 : IsFn Tryd.prog 25 73 c25 [] :=
  .of Tryd.func25 rfl Tryd.ntmps25 (by kernel_rfl) (by kernel_rfl)

-- (*strings.Builder).String (params 1)
def c26 : SCode :=
  (.seq
   (.region [⟨(some 2), none, .move (.const (.string ⟨#[]⟩)), []⟩])
   (.seq
    (.draw [⟨(some 3), none, .move (.tmp 0), []⟩,
      ⟨(some 4), none, .nilChk (.tmp 3), [0]⟩,
      ⟨(some 5), none, .fld 1 (.tmp 4), [1]⟩,
      ⟨(some 6), none, .load false 1 (.tmp 5), [2]⟩,
      ⟨(some 7), none, .raw (Op.call { callee := Callee.builtin Builtin.unsafeSliceData, args := #[Operand.tmp 6], argTypes := #[44] }) 69, [3]⟩,
      ⟨(some 8), none, .move (.tmp 0), []⟩,
      ⟨(some 9), none, .nilChk (.tmp 8), [5]⟩,
      ⟨(some 10), none, .fld 1 (.tmp 9), [6]⟩,
      ⟨(some 11), none, .load false 1 (.tmp 10), [7]⟩,
      ⟨(some 12), none, .lenL (.tmp 11), [8]⟩,
      ⟨(some 13), none, .raw (Op.call   { callee := Callee.builtin Builtin.unsafeString, args := #[Operand.tmp 7, Operand.tmp 12], argTypes := #[69, 3] }) 9, [4, 9]⟩,
      ⟨(some 2), none, .move (.tmp 13), [10, 0, 1, 2, 3, 4, 5, 6, 7, 8, 9, 10]⟩])
    .ret))
theorem is26 : IsFn Tryd.prog 26 14 c26 [.tmp 2] :=
  .of Tryd.func26 rfl Tryd.ntmps26 (by kernel_rfl) (by kernel_rfl)

-- stencil/stencilref7.html (params 1)
def c27 : SCode :=
  (.seq
   (.region [⟨(some 2), none, .move (.const (.slice none 0 0)), []⟩])
   (.seq
    (.region [⟨(some 3), none, .move (.const (.slice none 0 0)), []⟩])
    (.seq
     (.seq
      (.region [⟨(some 4), none, .move (.const (.int .i64 0)), []⟩])
      (.block 0
       (.loop
        (.seq
         (.seq
          (.region [⟨(some 7), none, .move (.tmp 4), []⟩,
            ⟨(some 8), none, .move (.tmp 0), []⟩,
            ⟨(some 9), none, .lenL (.tmp 8), []⟩,
            ⟨(some 10), none, .bin .lss (.tmp 7) (.tmp 9), []⟩])
          (.cond (.tmp 10)
           .skip
           (.exit 0)))
         (.seq
          (.block 1
           (.seq
            (.region [⟨(some 13), none, .move (.tmp 0), []⟩,
              ⟨(some 14), none, .move (.tmp 4), []⟩,
              ⟨(some 15), none, .idxA 4 (.tmp 13) (.tmp 14), []⟩,
              ⟨(some 16), none, .load true 4 (.tmp 15), []⟩,
              ⟨(some 5), none, .alloc 37 [.v (.string ⟨#[]⟩), .v (.string ⟨#[]⟩), .v (.slice none 0 0), .v (.slice none 0 0)], []⟩,
              ⟨none, none, .store 4 (.tmp 5) (.tmp 16), []⟩])
            (.seq
             (.seq
              (.region [⟨(some 17), none, .fld 0 (.tmp 5), []⟩,
                ⟨(some 18), none, .load false 1 (.tmp 17), []⟩,
                ⟨(some 19), none, .bin .eql (.tmp 18) (.const (.string ⟨#[]⟩)), []⟩])
              (.cond (.tmp 19)
               (.seq
                (.region [⟨(some 20), none, .move (.tmp 3), []⟩,
                  ⟨(some 21), none, .fld 1 (.tmp 5), []⟩,
                  ⟨(some 22), none, .load false 1 (.tmp 21), []⟩,
                  ⟨(some 23), none, .call 40 [(.tmp 22)], []⟩,
                  ⟨(some 24), none, .appS 5 (.tmp 20) (.tmp 23), []⟩,
                  ⟨(some 3), none, .move (.tmp 24), []⟩])
                (.exit 1))
               .skip))
             (.seq
              (.draw [⟨(some 25), none, .move (.tmp 3), []⟩,
                ⟨(some 26), none, .buildSl 1 1 [.v (.int .u8 0)] [(0, (.const (.int .u8 60)))], []⟩,
                ⟨(some 27), none, .app 5 1 1 (.tmp 25) (.tmp 26), [0, 1]⟩,
                ⟨(some 28), none, .fld 0 (.tmp 5), []⟩,
                ⟨(some 29), none, .load false 1 (.tmp 28), [3]⟩,
                ⟨(some 30), none, .appS 5 (.tmp 27) (.tmp 29), [2, 4, 2]⟩,
                ⟨(some 3), none, .move (.tmp 30), [5, 5, 0, 1, 2, 3, 4, 5]⟩])
              (.seq
               (.seq
                (.region [⟨(some 6), none, .move (.const (.int .i64 0)), []⟩])
                (.block 2
                 (.loop
                  (.seq
                   (.seq
                    (.region [⟨(some 31), none, .move (.tmp 6), []⟩,
                      ⟨(some 32), none, .fld 2 (.tmp 5), []⟩,
                      ⟨(some 33), none, .load false 1 (.tmp 32), []⟩,
                      ⟨(some 34), none, .lenL (.tmp 33), []⟩,
                      ⟨(some 35), none, .bin .lss (.tmp 31) (.tmp 34), []⟩])
                    (.cond (.tmp 35)
                     .skip
                     (.exit 2)))
                   (.seq
                    (.block 3
                     (.seq
                      (.draw (⟨(some 38), none, .move (.tmp 3), []⟩ ::
                        ⟨(some 39), none, .buildSl 1 1 [.v (.int .u8 0)] [(0, (.const (.int .u8 32)))], []⟩ ::
                        ⟨(some 40), none, .app 5 1 1 (.tmp 38) (.tmp 39), [0, 1]⟩ ::
                        ⟨(some 41), none, .fld 2 (.tmp 5), []⟩ ::
                        ⟨(some 42), none, .load false 1 (.tmp 41), [3]⟩ ::
                        ⟨(some 43), none, .move (.tmp 6), []⟩ ::
                        ⟨(some 44), none, .idxA 2 (.tmp 42) (.tmp 43), [4, 5]⟩ ::
                        ⟨(some 45), none, .fld 0 (.tmp 44), [6]⟩ ::
                        ⟨(some 46), none, .load false 1 (.tmp 45), [7]⟩ ::
                        ⟨(some 47), none, .appS 5 (.tmp 40) (.tmp 46), [2, 8, 2]⟩ ::
                        ⟨(some 48), none, .buildSl 1 2 [.v (.int .u8 0)] [(0, (.const (.int .u8 61))), (1, (.const (.int .u8 34)))], []⟩ ::
                        ⟨(some 49), none, .app 5 1 1 (.tmp 47) (.tmp 48), [9, 10, 9]⟩ ::
                        ⟨(some 50), none, .fld 2 (.tmp 5), []⟩ ::
                        ⟨(some 51), none, .load false 1 (.tmp 50), [12]⟩ ::
                        ⟨(some 52), none, .move (.tmp 6), []⟩ ::
                        ⟨(some 53), none, .idxA 2 (.tmp 51) (.tmp 52), [13, 14]⟩ ::
                        ⟨(some 54), none, .fld 1 (.tmp 53), [15]⟩ ::
                        ⟨(some 55), none, .load false 1 (.tmp 54), [16]⟩ ::
                        ⟨(some 56), none, .call 41 [(.tmp 55)], [17, 11]⟩ ::
                        ⟨(some 57), none, .appS 5 (.tmp 49) (.tmp 56), [11, 18, 18]⟩ ::
                        ⟨(some 3), none, .move (.tmp 57), [19, 19, 0, 1, 2, 3, 4, 5, 6, 7, 8, 9, 10, 11, 12, 13, 14, 15, 16, 17, 18, 19]⟩ :: []))
                      (.region [⟨(some 58), none, .move (.tmp 3), []⟩,
                        ⟨(some 59), none, .buildSl 1 1 [.v (.int .u8 0)] [(0, (.const (.int .u8 34)))], []⟩,
                        ⟨(some 60), none, .app 5 1 1 (.tmp 58) (.tmp 59), []⟩,
                        ⟨(some 3), none, .move (.tmp 60), []⟩])))
                    (.region [⟨(some 36), none, .move (.tmp 6), []⟩,
                      ⟨(some 37), none, .bin .add (.tmp 36) (.const (.int .i64 1)), []⟩,
                      ⟨(some 6), none, .move (.tmp 37), []⟩]))))))
               (.seq
                (.draw [⟨(some 61), none, .move (.tmp 3), []⟩,
                  ⟨(some 62), none, .buildSl 1 1 [.v (.int .u8 0)] [(0, (.const (.int .u8 62)))], []⟩,
                  ⟨(some 63), none, .app 5 1 1 (.tmp 61) (.tmp 62), [0, 1]⟩,
                  ⟨(some 64), none, .fld 3 (.tmp 5), []⟩,
                  ⟨(some 65), none, .load false 1 (.tmp 64), [3]⟩,
                  ⟨(some 66), none, .call 27 [(.tmp 65)], [4, 2]⟩,
                  ⟨(some 67), none, .app 5 1 1 (.tmp 63) (.tmp 66), [2, 5, 5]⟩,
                  ⟨(some 3), none, .move (.tmp 67), [6, 6, 0, 1, 2, 3, 4, 5, 6]⟩])
                (.draw [⟨(some 68), none, .move (.tmp 3), []⟩,
                  ⟨(some 69), none, .buildSl 1 2 [.v (.int .u8 0)] [(0, (.const (.int .u8 60))), (1, (.const (.int .u8 47)))], []⟩,
                  ⟨(some 70), none, .app 5 1 1 (.tmp 68) (.tmp 69), [0, 1]⟩,
                  ⟨(some 71), none, .fld 0 (.tmp 5), []⟩,
                  ⟨(some 72), none, .load false 1 (.tmp 71), [3]⟩,
                  ⟨(some 73), none, .appS 5 (.tmp 70) (.tmp 72), [2, 4, 2]⟩,
                  ⟨(some 74), none, .buildSl 1 1 [.v (.int .u8 0)] [(0, (.const (.int .u8 62)))], []⟩,
                  ⟨(some 75), none, .app 5 1 1 (.tmp 73) (.tmp 74), [5, 6, 5]⟩,
                  ⟨(some 3), none, .move (.tmp 75), [7, 7, 0, 1, 2, 3, 4, 5, 6, 7]⟩])))))))
          (.region [⟨(some 11), none, .move (.tmp 4), []⟩,
            ⟨(some 12), none, .bin .add (.tmp 11) (.const (.int .i64 1)), []⟩,
            ⟨(some 4), none, .move (.tmp 12), []⟩]))))))
     (.seq
      (.region [⟨(some 76), none, .move (.tmp 3), []⟩,
        ⟨(some 2), none, .move (.tmp 76), []⟩])
      .ret))))
theorem is27 : IsFn Tryd.prog 27 77 c27 [.tmp 2] :=
  .of Tryd.func27 rfl Tryd.ntmps27 (by kernel_rfl) (by kernel_rfl)

-- stencil/stencilref7.look (params 3)
def c28 : SCode :=
  (.seq
   (.region [⟨(some 6), none, .move (.const (.int .i64 0)), []⟩,
     ⟨(some 7), none, .move (.const (.int .i64 0)), []⟩])
   (.seq
    (.seq
     (.region [⟨(some 8), none, .move (.const (.int .i64 0)), []⟩])
     (.block 0
      (.loop
       (.seq
        (.seq
         (.region [⟨(some 11), none, .move (.tmp 8), []⟩,
           ⟨(some 12), none, .move (.tmp 0), []⟩,
           ⟨(some 13), none, .lenL (.tmp 12), []⟩,
           ⟨(some 14), none, .bin .lss (.tmp 11) (.tmp 13), []⟩])
         (.cond (.tmp 14)
          .skip
          (.exit 0)))
        (.seq
         (.block 1
          (.seq
           (.seq
            (.region [⟨(some 17), none, .move (.tmp 1), []⟩,
              ⟨(some 18), none, .bin .geq (.tmp 17) (.const (.int .i64 4096)), []⟩])
            (.cond (.tmp 18)
             (.seq
              (.region [⟨(some 19), none, .move (.tmp 1), []⟩,
                ⟨(some 6), none, .move (.tmp 19), []⟩,
                ⟨(some 7), none, .move (.const (.int .i64 702)), []⟩])
              .ret)
             .skip))
           (.seq
            (.seq
             (.region [⟨(some 20), none, .move (.tmp 2), []⟩,
               ⟨(some 21), none, .bin .gtr (.tmp 20) (.const (.int .i64 64)), []⟩])
             (.cond (.tmp 21)
              (.seq
               (.region [⟨(some 22), none, .move (.tmp 1), []⟩,
                 ⟨(some 6), none, .move (.tmp 22), []⟩,
                 ⟨(some 7), none, .move (.const (.int .i64 701)), []⟩])
               .ret)
              .skip))
            (.seq
             (.seq
              (.region [⟨(some 23), none, .move (.tmp 0), []⟩,
                ⟨(some 24), none, .move (.tmp 8), []⟩,
                ⟨(some 25), none, .idxA 4 (.tmp 23) (.tmp 24), []⟩,
                ⟨(some 26), none, .load true 4 (.tmp 25), []⟩,
                ⟨(some 27), none, .call 42 [(.tmp 26)], []⟩,
                ⟨(some 28), none, .un .not (.tmp 27), []⟩])
              (.cond (.tmp 28)
               (.seq
                (.region [⟨(some 29), none, .move (.tmp 1), []⟩,
                  ⟨(some 6), none, .move (.tmp 29), []⟩,
                  ⟨(some 7), none, .move (.const (.int .i64 700)), []⟩])
                .ret)
               .skip))
             (.seq
              (.region [⟨(some 31), none, .move (.tmp 0), []⟩,
                ⟨(some 32), none, .move (.tmp 8), []⟩,
                ⟨(some 33), none, .idxA 4 (.tmp 31) (.tmp 32), []⟩,
                ⟨(some 34), none, .fld 3 (.tmp 33), []⟩,
                ⟨(some 35), none, .load false 1 (.tmp 34), []⟩,
                ⟨(some 36), none, .move (.tmp 1), []⟩,
                ⟨(some 37), none, .bin .add (.tmp 36) (.const (.int .i64 1)), []⟩,
                ⟨(some 38), none, .move (.tmp 2), []⟩,
                ⟨(some 39), none, .bin .add (.tmp 38) (.const (.int .i64 1)), []⟩,
                ⟨(some 40), none, .call 28 [(.tmp 35), (.tmp 37), (.tmp 39)], []⟩,
                ⟨(some 30), none, .move (.tmp 40), []⟩,
                ⟨(some 41), none, .ext (.tmp 30) 0, []⟩,
                ⟨(some 42), none, .ext (.tmp 30) 1, []⟩,
                ⟨(some 9), none, .move (.tmp 41), []⟩,
                ⟨(some 10), none, .move (.tmp 42), []⟩])
              (.seq
               (.seq
                (.region [⟨(some 43), none, .move (.tmp 10), []⟩,
                  ⟨(some 44), none, .bin .neq (.tmp 43) (.const (.int .i64 0)), []⟩])
                (.cond (.tmp 44)
                 (.seq
                  (.region [⟨(some 45), none, .move (.tmp 9), []⟩,
                    ⟨(some 46), none, .move (.tmp 10), []⟩,
                    ⟨(some 6), none, .move (.tmp 45), []⟩,
                    ⟨(some 7), none, .move (.tmp 46), []⟩])
                  .ret)
                 .skip))
               (.region [⟨(some 47), none, .move (.tmp 9), []⟩,
                 ⟨(some 1), none, .move (.tmp 47), []⟩])))))))
         (.region [⟨(some 15), none, .move (.tmp 8), []⟩,
           ⟨(some 16), none, .bin .add (.tmp 15) (.const (.int .i64 1)), []⟩,
           ⟨(some 8), none, .move (.tmp 16), []⟩]))))))
    (.seq
     (.region [⟨(some 48), none, .move (.tmp 1), []⟩,
       ⟨(some 6), none, .move (.tmp 48), []⟩,
       ⟨(some 7), none, .move (.const (.int .i64 0)), []⟩])
     .ret)))
theorem is28 : IsFn Tryd.prog 28 49 c28 [.tmp 6, .tmp 7] :=
  .of Tryd.func28 rfl Tryd.ntmps28 (by kernel_rfl) (by kernel_rfl)

-- stencil/stencilref7.deep (params 1)
def c29 : SCode :=
  (.seq
   (.region [⟨(some 2), none, .move (.const (.int .i64 0)), []⟩])
   (.seq
    (.region [⟨(some 3), none, .move (.const (.int .i64 0)), []⟩])
    (.seq
     (.seq
      (.region [⟨(some 4), none, .move (.const (.int .i64 0)), []⟩])
      (.block 0
       (.loop
        (.seq
         (.seq
          (.region [⟨(some 5), none, .move (.tmp 4), []⟩,
            ⟨(some 6), none, .move (.tmp 0), []⟩,
            ⟨(some 7), none, .lenL (.tmp 6), []⟩,
            ⟨(some 8), none, .bin .lss (.tmp 5) (.tmp 7), []⟩])
          (.cond (.tmp 8)
           .skip
           (.exit 0)))
         (.seq
          (.block 1
           (.region [⟨(some 11), none, .move (.tmp 3), []⟩,
             ⟨(some 12), none, .move (.tmp 0), []⟩,
             ⟨(some 13), none, .move (.tmp 4), []⟩,
             ⟨(some 14), none, .idxA 4 (.tmp 12) (.tmp 13), []⟩,
             ⟨(some 15), none, .fld 3 (.tmp 14), []⟩,
             ⟨(some 16), none, .load false 1 (.tmp 15), []⟩,
             ⟨(some 17), none, .call 29 [(.tmp 16)], []⟩,
             ⟨(some 18), none, .bin .add (.const (.int .i64 1)) (.tmp 17), []⟩,
             ⟨(some 19), none, .max (.tmp 11) (.tmp 18), []⟩,
             ⟨(some 3), none, .move (.tmp 19), []⟩]))
          (.region [⟨(some 9), none, .move (.tmp 4), []⟩,
            ⟨(some 10), none, .bin .add (.tmp 9) (.const (.int .i64 1)), []⟩,
            ⟨(some 4), none, .move (.tmp 10), []⟩]))))))
     (.seq
      (.region [⟨(some 20), none, .move (.tmp 3), []⟩,
        ⟨(some 2), none, .move (.tmp 20), []⟩])
      .ret))))
theorem is29 : IsFn Tryd.prog 29 21 c29 [.tmp 2] :=
  .of Tryd.func29 rfl Tryd.ntmps29 (by kernel_rfl) (by kernel_rfl)

-- stencil/stencillaw0.SameTree (params 2)
def c30 : SCode :=
  (.seq
   (.region [⟨(some 2), none, .box 37 (.tmp 0), []⟩,
     ⟨(some 3), none, .box 37 (.tmp 1), []⟩,
     ⟨(some 4), none, .move (.const (.bool false)), []⟩])
   (.seq
    (.region (⟨(some 5), none, .fld 0 (.tmp 2), []⟩ ::
      ⟨(some 6), none, .load false 1 (.tmp 5), []⟩ ::
      ⟨(some 7), none, .fld 0 (.tmp 3), []⟩ ::
      ⟨(some 8), none, .load false 1 (.tmp 7), []⟩ ::
      ⟨(some 9), none, .bin .eql (.tmp 6) (.tmp 8), []⟩ ::
      ⟨(some 10), none, .move (.tmp 9), []⟩ ::
      ⟨(some 11), (some (10, true)), .fld 1 (.tmp 2), []⟩ ::
      ⟨(some 12), (some (10, true)), .load false 1 (.tmp 11), []⟩ ::
      ⟨(some 13), (some (10, true)), .fld 1 (.tmp 3), []⟩ ::
      ⟨(some 14), (some (10, true)), .load false 1 (.tmp 13), []⟩ ::
      ⟨(some 15), (some (10, true)), .bin .eql (.tmp 12) (.tmp 14), []⟩ ::
      ⟨(some 16), none, .pick (.tmp 10) (.tmp 15) (.const (.bool false)), []⟩ ::
      ⟨(some 17), none, .move (.tmp 16), []⟩ ::
      ⟨(some 18), (some (17, true)), .fld 2 (.tmp 2), []⟩ ::
      ⟨(some 19), (some (17, true)), .load false 1 (.tmp 18), []⟩ ::
      ⟨(some 20), (some (17, true)), .fld 2 (.tmp 3), []⟩ ::
      ⟨(some 21), (some (17, true)), .load false 1 (.tmp 20), []⟩ ::
      ⟨(some 22), (some (17, true)), .call 43 [(.tmp 19), (.tmp 21)], []⟩ ::
      ⟨(some 23), none, .pick (.tmp 17) (.tmp 22) (.const (.bool false)), []⟩ ::
      ⟨(some 24), none, .move (.tmp 23), []⟩ ::
      ⟨(some 25), (some (24, true)), .fld 3 (.tmp 2), []⟩ ::
      ⟨(some 26), (some (24, true)), .load false 1 (.tmp 25), []⟩ ::
      ⟨(some 27), (some (24, true)), .fld 3 (.tmp 3), []⟩ ::
      ⟨(some 28), (some (24, true)), .load false 1 (.tmp 27), []⟩ ::
      ⟨(some 29), (some (24, true)), .call 44 [(.tmp 26), (.tmp 28)], []⟩ ::
      ⟨(some 30), none, .pick (.tmp 24) (.tmp 29) (.const (.bool false)), []⟩ ::
      ⟨(some 4), none, .move (.tmp 30), []⟩ :: []))
    .ret))
theorem is30 : IsFn Tryd.prog 30 31 c30 [.tmp 4] :=
  .of Tryd.func30 rfl Tryd.ntmps30 (by kernel_rfl) (by kernel_rfl)

-- stencil/stencillaw0.KeptTree (params 2)
def c31 : SCode :=
  (.seq
   (.region [⟨(some 2), none, .box 37 (.tmp 0), []⟩,
     ⟨(some 3), none, .box 37 (.tmp 1), []⟩,
     ⟨(some 4), none, .move (.const (.bool false)), []⟩])
   (.seq
    (.region (⟨(some 5), none, .fld 0 (.tmp 2), []⟩ ::
      ⟨(some 6), none, .load false 1 (.tmp 5), []⟩ ::
      ⟨(some 7), none, .fld 0 (.tmp 3), []⟩ ::
      ⟨(some 8), none, .load false 1 (.tmp 7), []⟩ ::
      ⟨(some 9), none, .bin .eql (.tmp 6) (.tmp 8), []⟩ ::
      ⟨(some 10), none, .move (.tmp 9), []⟩ ::
      ⟨(some 11), (some (10, true)), .fld 1 (.tmp 2), []⟩ ::
      ⟨(some 12), (some (10, true)), .load false 1 (.tmp 11), []⟩ ::
      ⟨(some 13), (some (10, true)), .fld 1 (.tmp 3), []⟩ ::
      ⟨(some 14), (some (10, true)), .load false 1 (.tmp 13), []⟩ ::
      ⟨(some 15), (some (10, true)), .bin .eql (.tmp 12) (.tmp 14), []⟩ ::
      ⟨(some 16), none, .pick (.tmp 10) (.tmp 15) (.const (.bool false)), []⟩ ::
      ⟨(some 17), none, .move (.tmp 16), []⟩ ::
      ⟨(some 18), (some (17, true)), .fld 2 (.tmp 2), []⟩ ::
      ⟨(some 19), (some (17, true)), .load false 1 (.tmp 18), []⟩ ::
      ⟨(some 20), (some (17, true)), .fld 2 (.tmp 3), []⟩ ::
      ⟨(some 21), (some (17, true)), .load false 1 (.tmp 20), []⟩ ::
      ⟨(some 22), (some (17, true)), .call 45 [(.tmp 19), (.tmp 21)], []⟩ ::
      ⟨(some 23), none, .pick (.tmp 17) (.tmp 22) (.const (.bool false)), []⟩ ::
      ⟨(some 24), none, .move (.tmp 23), []⟩ ::
      ⟨(some 25), (some (24, true)), .fld 3 (.tmp 2), []⟩ ::
      ⟨(some 26), (some (24, true)), .load false 1 (.tmp 25), []⟩ ::
      ⟨(some 27), (some (24, true)), .fld 3 (.tmp 3), []⟩ ::
      ⟨(some 28), (some (24, true)), .load false 1 (.tmp 27), []⟩ ::
      ⟨(some 29), (some (24, true)), .call 17 [(.tmp 26), (.tmp 28)], []⟩ ::
      ⟨(some 30), none, .pick (.tmp 24) (.tmp 29) (.const (.bool false)), []⟩ ::
      ⟨(some 4), none, .move (.tmp 30), []⟩ :: []))
    .ret))
theorem is31 : IsFn Tryd.prog 31 31 c31 [.tmp 4] :=
  .of Tryd.func31 rfl Tryd.ntmps31 (by kernel_rfl) (by kernel_rfl)

-- slices.Equal[[]stencil/api.Attr,stencil/api.Attr] (params 2)
def c32 : SCode :=
  (.seq
   (.region [⟨(some 4), none, .move (.const (.bool false)), []⟩])
   (.seq
    (.seq
     (.region [⟨(some 6), none, .move (.tmp 0), []⟩,
       ⟨(some 7), none, .lenL (.tmp 6), []⟩,
       ⟨(some 8), none, .move (.tmp 1), []⟩,
       ⟨(some 9), none, .lenL (.tmp 8), []⟩,
       ⟨(some 10), none, .bin .neq (.tmp 7) (.tmp 9), []⟩])
     (.cond (.tmp 10)
      (.seq
       (.region [⟨(some 4), none, .move (.const (.bool false)), []⟩])
       .ret)
      .skip))
    (.seq
     (.seq
      (.region [⟨(some 11), none, .move (.tmp 0), []⟩,
        ⟨(some 12), none, .lenL (.tmp 11), []⟩,
        ⟨(some 13), none, .move (.const (.int .i64 0)), []⟩])
      (.block 0
       (.loop
        (.seq
         (.region [⟨(some 14), none, .bin .lss (.tmp 13) (.tmp 12), []⟩])
         (.seq
          (.cond (.tmp 14)
           .skip
           (.exit 0))
          (.seq
           (.block 1
            (.seq
             (.region [⟨(some 15), none, .move (.tmp 13), []⟩,
               ⟨(some 5), none, .move (.tmp 15), []⟩])
             (.seq
              (.draw [⟨(some 16), none, .move (.tmp 0), []⟩,
                ⟨(some 17), none, .move (.tmp 5), []⟩,
                ⟨(some 18), none, .idxA 2 (.tmp 16) (.tmp 17), [0, 1]⟩,
                ⟨(some 19), none, .load true 2 (.tmp 18), [2]⟩,
                ⟨(some 20), none, .move (.tmp 1), []⟩,
                ⟨(some 21), none, .move (.tmp 5), []⟩,
                ⟨(some 22), none, .idxA 2 (.tmp 20) (.tmp 21), [4, 5]⟩,
                ⟨(some 23), none, .load true 2 (.tmp 22), [6]⟩,
                ⟨(some 24), none, .eqF .neq [1, 1] (.tmp 19) (.tmp 23), [3, 7]⟩])
              (.cond (.tmp 24)
               (.seq
                (.region [⟨(some 4), none, .move (.const (.bool false)), []⟩])
                .ret)
               .skip))))
           (.region [⟨(some 25), none, .bin .add (.tmp 13) (.const (.int .i64 1)), []⟩,
             ⟨(some 13), none, .move (.tmp 25), []⟩])))))))
     (.seq
      (.region [⟨(some 4), none, .move (.const (.bool true)), []⟩])
      .ret))))
theorem is32 : IsFn Tryd.prog 32 26 c32 [.tmp 4] :=
  .of Tryd.func32 rfl Tryd.ntmps32 (by kernel_rfl) (by kernel_rfl)

-- stencil/stencillaw0.CopyTree (params 1)
def c33 : SCode :=
  (.seq
   (.region [⟨(some 1), none, .box 37 (.tmp 0), []⟩,
     ⟨(some 2), none, .alloc 37 [.v (.string ⟨#[]⟩), .v (.string ⟨#[]⟩), .v (.slice none 0 0), .v (.slice none 0 0)], []⟩])
   (.seq
    (.region [⟨(some 3), none, .fld 2 (.tmp 1), []⟩,
      ⟨(some 4), none, .load false 1 (.tmp 3), []⟩,
      ⟨(some 5), none, .call 46 [(.tmp 4)], []⟩,
      ⟨(some 6), none, .fld 2 (.tmp 1), []⟩,
      ⟨none, none, .store 1 (.tmp 6) (.tmp 5), []⟩])
    (.seq
     (.region [⟨(some 7), none, .fld 3 (.tmp 1), []⟩,
       ⟨(some 8), none, .load false 1 (.tmp 7), []⟩,
       ⟨(some 9), none, .call 21 [(.tmp 8)], []⟩,
       ⟨(some 10), none, .fld 3 (.tmp 1), []⟩,
       ⟨none, none, .store 1 (.tmp 10) (.tmp 9), []⟩])
     (.seq
      (.region [⟨(some 11), none, .load true 4 (.tmp 1), []⟩,
        ⟨none, none, .store 4 (.tmp 2) (.tmp 11), []⟩])
      .ret))))
theorem is33 : IsFn Tryd.prog 33 12 c33 [.cell true 4 2] :=
  .of Tryd.func33 rfl Tryd.ntmps33 (by kernel_rfl) (by kernel_rfl)

-- stencil/stencillaw0.LendAttrs (params 1)
def c34 : SCode :=
  (.seq
   (.region [⟨(some 2), none, .move (.const (.slice none 0 0)), []⟩])
   (.seq
    (.region [⟨(some 4), none, .move (.tmp 0), []⟩,
      ⟨(some 5), none, .call 46 [(.tmp 4)], []⟩,
      ⟨(some 6), none, .build [.v (.string ⟨#[]⟩), .v (.string ⟨#[]⟩)] [(0, 1, (.const (.string ⟨#[126, 114, 111, 111, 109]⟩)))], []⟩,
      ⟨(some 7), none, .build [.v (.string ⟨#[]⟩), .v (.string ⟨#[]⟩)] [(0, 1, (.const (.string ⟨#[126, 114, 111, 111, 109]⟩)))], []⟩,
      ⟨(some 8), none, .buildSl 2 2 [.v (.string ⟨#[]⟩), .v (.string ⟨#[]⟩)] [(0, (.tmp 6)), (1, (.tmp 7))], []⟩,
      ⟨(some 9), none, .app 54 2 32 (.tmp 5) (.tmp 8), []⟩,
      ⟨(some 3), none, .move (.tmp 9), []⟩])
    (.seq
     (.region [⟨(some 10), none, .move (.tmp 3), []⟩,
       ⟨(some 11), none, .move (.tmp 0), []⟩,
       ⟨(some 12), none, .lenL (.tmp 11), []⟩,
       ⟨(some 13), none, .slL 2 (.tmp 10) none (some (.tmp 12)) none, []⟩,
       ⟨(some 2), none, .move (.tmp 13), []⟩])
     .ret)))
theorem is34 : IsFn Tryd.prog 34 14 c34 [.tmp 2] :=
  .of Tryd.func34 rfl Tryd.ntmps34 (by kernel_rfl) (by kernel_rfl)

-- stencil/forest.walk (params 3)
def c35 : SCode :=
  (.seq
   (.region [⟨(some 6), none, .move (.const (.bool false)), []⟩])
   (.seq
    (.seq
     (.region [⟨(some 8), none, .move (.tmp 0), []⟩,
       ⟨(some 9), none, .lenL (.tmp 8), []⟩,
       ⟨(some 10), none, .move (.const (.int .i64 0)), []⟩])
     (.block 0
      (.loop
       (.seq
        (.region [⟨(some 11), none, .bin .lss (.tmp 10) (.tmp 9), []⟩])
        (.seq
         (.cond (.tmp 11)
          .skip
          (.exit 0))
         (.seq
          (.block 1
           (.seq
            (.region [⟨(some 12), none, .move (.tmp 10), []⟩,
              ⟨(some 7), none, .move (.tmp 12), []⟩])
            (.seq
             (.region [⟨(some 13), none, .move (.tmp 2), []⟩,
               ⟨(some 14), none, .nilChk (.tmp 13), []⟩,
               ⟨(some 15), none, .fld 0 (.tmp 14), []⟩,
               ⟨(some 16), none, .load false 1 (.tmp 15), []⟩,
               ⟨(some 17), none, .bin .add (.tmp 16) (.const (.int .i64 1)), []⟩,
               ⟨(some 18), none, .nilChk (.tmp 13), []⟩,
               ⟨(some 19), none, .fld 0 (.tmp 18), []⟩,
               ⟨none, none, .store 1 (.tmp 19) (.tmp 17), []⟩])
             (.seq
              (.block 2
               (.seq
                (.region [⟨(some 21), none, .move (.tmp 2), []⟩,
                  ⟨(some 22), none, .nilChk (.tmp 21), []⟩,
                  ⟨(some 23), none, .fld 0 (.tmp 22), []⟩,
                  ⟨(some 24), none, .load false 1 (.tmp 23), []⟩,
                  ⟨(some 25), none, .bin .gtr (.tmp 24) (.const (.int .i64 4096)), []⟩,
                  ⟨(some 20), none, .move (.tmp 25), []⟩])
                (.cond (.tmp 20)
                 (.region [⟨(some 26), none, .move (.tmp 2), []⟩,
                   ⟨(some 27), none, .nilChk (.tmp 26), []⟩,
                   ⟨(some 28), none, .fld 2 (.tmp 27), []⟩,
                   ⟨none, none, .store 1 (.tmp 28) (.const (.int .i64 702)), []⟩])
                 (.seq
                  (.region [⟨(some 30), none, .move (.tmp 1), []⟩,
                    ⟨(some 31), none, .bin .gtr (.tmp 30) (.const (.int .i64 64)), []⟩,
                    ⟨(some 29), none, .move (.tmp 31), []⟩])
                  (.cond (.tmp 29)
                   (.region [⟨(some 32), none, .move (.tmp 2), []⟩,
                     ⟨(some 33), none, .nilChk (.tmp 32), []⟩,
                     ⟨(some 34), none, .fld 2 (.tmp 33), []⟩,
                     ⟨none, none, .store 1 (.tmp 34) (.const (.int .i64 701)), []⟩])
                   (.seq
                    (.region [⟨(some 36), none, .move (.tmp 0), []⟩,
                      ⟨(some 37), none, .move (.tmp 7), []⟩,
                      ⟨(some 38), none, .idxA 4 (.tmp 36) (.tmp 37), []⟩,
                      ⟨(some 39), none, .call 47 [(.tmp 38)], []⟩,
                      ⟨(some 40), none, .un .not (.tmp 39), []⟩,
                      ⟨(some 35), none, .move (.tmp 40), []⟩])
                    (.cond (.tmp 35)
                     (.region [⟨(some 41), none, .move (.tmp 2), []⟩,
                       ⟨(some 42), none, .nilChk (.tmp 41), []⟩,
                       ⟨(some 43), none, .fld 2 (.tmp 42), []⟩,
                       ⟨none, none, .store 1 (.tmp 43) (.const (.int .i64 700)), []⟩])
                     .skip)))))))
              (.seq
               (.region [⟨(some 44), none, .move (.tmp 2), []⟩,
                 ⟨(some 45), none, .move (.tmp 2), []⟩,
                 ⟨(some 46), none, .nilChk (.tmp 45), []⟩,
                 ⟨(some 47), none, .fld 1 (.tmp 46), []⟩,
                 ⟨(some 48), none, .load false 1 (.tmp 47), []⟩,
                 ⟨(some 49), none, .move (.tmp 1), []⟩,
                 ⟨(some 50), none, .max (.tmp 48) (.tmp 49), []⟩,
                 ⟨(some 51), none, .nilChk (.tmp 44), []⟩,
                 ⟨(some 52), none, .fld 1 (.tmp 51), []⟩,
                 ⟨none, none, .store 1 (.tmp 52) (.tmp 50), []⟩])
               (.seq
                (.region [⟨(some 53), none, .move (.tmp 2), []⟩,
                  ⟨(some 54), none, .nilChk (.tmp 53), []⟩,
                  ⟨(some 55), none, .fld 2 (.tmp 54), []⟩,
                  ⟨(some 56), none, .load false 1 (.tmp 55), []⟩,
                  ⟨(some 57), none, .bin .neq (.tmp 56) (.const (.int .i64 0)), []⟩,
                  ⟨(some 58), none, .move (.tmp 57), []⟩,
                  ⟨(some 59), (some (58, false)), .move (.tmp 0), []⟩,
                  ⟨(some 60), (some (58, false)), .move (.tmp 7), []⟩,
                  ⟨(some 61), (some (58, false)), .idxA 4 (.tmp 59) (.tmp 60), []⟩,
                  ⟨(some 62), (some (58, false)), .fld 3 (.tmp 61), []⟩,
                  ⟨(some 63), (some (58, false)), .load false 1 (.tmp 62), []⟩,
                  ⟨(some 64), (some (58, false)), .move (.tmp 1), []⟩,
                  ⟨(some 65), (some (58, false)), .bin .add (.tmp 64) (.const (.int .i64 1)), []⟩,
                  ⟨(some 66), (some (58, false)), .move (.tmp 2), []⟩,
                  ⟨(some 67), (some (58, false)), .call 35 [(.tmp 63), (.tmp 65), (.tmp 66)], []⟩,
                  ⟨(some 68), (some (58, false)), .un .not (.tmp 67), []⟩,
                  ⟨(some 69), none, .pick (.tmp 58) (.const (.bool true)) (.tmp 68), []⟩])
                (.cond (.tmp 69)
                 (.seq
                  (.region [⟨(some 6), none, .move (.const (.bool false)), []⟩])
                  .ret)
                 .skip)))))))
          (.region [⟨(some 70), none, .bin .add (.tmp 10) (.const (.int .i64 1)), []⟩,
            ⟨(some 10), none, .move (.tmp 70), []⟩])))))))
    (.seq
     (.region [⟨(some 6), none, .move (.const (.bool true)), []⟩])
     .ret)))
theorem is35 : IsFn Tryd.prog 35 71 c35 [.tmp 6] :=
  .of Tryd.func35 rfl Tryd.ntmps35 (by kernel_rfl) (by kernel_rfl)

-- (*strings.Builder).WriteString (params 2)
def c36 : SCode :=
  (.seq
   (.region [⟨(some 4), none, .move (.const (.int .i64 0)), []⟩,
     ⟨(some 5), none, .move (.const .nilIface), []⟩])
   (.seq
    (.region [⟨(some 6), none, .move (.tmp 0), []⟩,
      ⟨(some 7), none, .call 48 [(.tmp 6)], []⟩])
    (.seq
     (.region [⟨(some 8), none, .move (.tmp 0), []⟩,
       ⟨(some 9), none, .move (.tmp 0), []⟩,
       ⟨(some 10), none, .nilChk (.tmp 9), []⟩,
       ⟨(some 11), none, .fld 1 (.tmp 10), []⟩,
       ⟨(some 12), none, .load false 1 (.tmp 11), []⟩,
       ⟨(some 13), none, .move (.tmp 1), []⟩,
       ⟨(some 14), none, .appS 5 (.tmp 12) (.tmp 13), []⟩,
       ⟨(some 15), none, .nilChk (.tmp 8), []⟩,
       ⟨(some 16), none, .fld 1 (.tmp 15), []⟩,
       ⟨none, none, .store 1 (.tmp 16) (.tmp 14), []⟩])
     (.seq
      (.region [⟨(some 17), none, .move (.tmp 1), []⟩,
        ⟨(some 18), none, .lenS (.tmp 17), []⟩,
        ⟨(some 4), none, .move (.tmp 18), []⟩,
        ⟨(some 5), none, .move (.const .nilIface), []⟩])
      .ret))))
theorem is36 : IsFn Tryd.prog 36 19 c36 [.tmp 4, .tmp 5] :=
  .of Tryd.func36 rfl Tryd.ntmps36 (by kernel_rfl) (by kernel_rfl)

-- stencil/html.Text (params 1)
def c37 : SCode :=
  (.seq
   (.region [⟨(some 2), none, .move (.const (.string ⟨#[]⟩)), []⟩])
   (.seq
    (.region [⟨(some 3), none, .move (.tmp 0), []⟩,
      ⟨(some 4), none, .call 49 [(.tmp 3), (.const (.bool false))], []⟩,
      ⟨(some 2), none, .move (.tmp 4), []⟩])
    .ret))
theorem is37 : IsFn Tryd.prog 37 5 c37 [.tmp 2] :=
  .of Tryd.func37 rfl Tryd.ntmps37 (by kernel_rfl) (by kernel_rfl)

-- stencil/html.Attr (params 1)
def c38 : SCode :=
  (.seq
   (.region [⟨(some 2), none, .move (.const (.string ⟨#[]⟩)), []⟩])
   (.seq
    (.region [⟨(some 3), none, .move (.tmp 0), []⟩,
      ⟨(some 4), none, .call 49 [(.tmp 3), (.const (.bool true))], []⟩,
      ⟨(some 2), none, .move (.tmp 4), []⟩])
    .ret))
theorem is38 : IsFn Tryd.prog 38 5 c38 [.tmp 2] :=
  .of Tryd.func38 rfl Tryd.ntmps38 (by kernel_rfl) (by kernel_rfl)

-- (*strings.Builder).WriteByte (params 2)
def c39 : SCode :=
  (.seq
   (.region [⟨(some 4), none, .move (.const .nilIface), []⟩])
   (.seq
    (.region [⟨(some 5), none, .move (.tmp 0), []⟩,
      ⟨(some 6), none, .call 48 [(.tmp 5)], []⟩])
    (.seq
     (.region [⟨(some 7), none, .move (.tmp 0), []⟩,
       ⟨(some 8), none, .move (.tmp 0), []⟩,
       ⟨(some 9), none, .nilChk (.tmp 8), []⟩,
       ⟨(some 10), none, .fld 1 (.tmp 9), []⟩,
       ⟨(some 11), none, .load false 1 (.tmp 10), []⟩,
       ⟨(some 12), none, .move (.tmp 1), []⟩,
       ⟨(some 13), none, .buildSl 1 1 [.v (.int .u8 0)] [(0, (.tmp 12))], []⟩,
       ⟨(some 14), none, .app 5 1 1 (.tmp 11) (.tmp 13), []⟩,
       ⟨(some 15), none, .nilChk (.tmp 7), []⟩,
       ⟨(some 16), none, .fld 1 (.tmp 15), []⟩,
       ⟨none, none, .store 1 (.tmp 16) (.tmp 14), []⟩])
     (.seq
      (.region [⟨(some 4), none, .move (.const .nilIface), []⟩])
      .ret))))
theorem is39 : IsFn Tryd.prog 39 17 c39 [.tmp 4] :=
  .of Tryd.func39 rfl Tryd.ntmps39 (by kernel_rfl) (by kernel_rfl)

-- stencil/stencilref4.Text (params 1)
def c40 : SCode :=
  (.seq
   (.region [⟨(some 2), none, .move (.const (.string ⟨#[]⟩)), []⟩])
   (.seq
    (.region [⟨(some 3), none, .move (.tmp 0), []⟩,
      ⟨(some 4), none, .call 50 [(.tmp 3), (.const (.bool false))], []⟩,
      ⟨(some 2), none, .move (.tmp 4), []⟩])
    .ret))
theorem is40 : IsFn Tryd.prog 40 5 c40 [.tmp 2] :=
  .of Tryd.func40 rfl Tryd.ntmps40 (by kernel_rfl) (by kernel_rfl)

-- stencil/stencilref4.Attr (params 1)
def c41 : SCode :=
  (.seq
   (.region [⟨(some 2), none, .move (.const (.string ⟨#[]⟩)), []⟩])
   (.seq
    (.region [⟨(some 3), none, .move (.tmp 0), []⟩,
      ⟨(some 4), none, .call 50 [(.tmp 3), (.const (.bool true))], []⟩,
      ⟨(some 2), none, .move (.tmp 4), []⟩])
    .ret))
theorem is41 : IsFn Tryd.prog 41 5 c41 [.tmp 2] :=
  .of Tryd.func41 rfl Tryd.ntmps41 (by kernel_rfl) (by kernel_rfl)

-- stencil/stencilref7.Alone (params 1)
def c42 : SCode :=
  (.seq
   (.region [⟨(some 1), none, .box 37 (.tmp 0), []⟩,
     ⟨(some 2), none, .move (.const (.bool false)), []⟩])
   (.seq
    (.seq
     (.region [⟨(some 4), none, .fld 0 (.tmp 1), []⟩,
       ⟨(some 5), none, .load false 1 (.tmp 4), []⟩,
       ⟨(some 6), none, .bin .eql (.tmp 5) (.const (.string ⟨#[]⟩)), []⟩])
     (.cond (.tmp 6)
      (.seq
       (.region [⟨(some 7), none, .fld 2 (.tmp 1), []⟩,
         ⟨(some 8), none, .load false 1 (.tmp 7), []⟩,
         ⟨(some 9), none, .lenL (.tmp 8), []⟩,
         ⟨(some 10), none, .bin .eql (.tmp 9) (.const (.int .i64 0)), []⟩,
         ⟨(some 11), none, .move (.tmp 10), []⟩,
         ⟨(some 12), (some (11, true)), .fld 3 (.tmp 1), []⟩,
         ⟨(some 13), (some (11, true)), .load false 1 (.tmp 12), []⟩,
         ⟨(some 14), (some (11, true)), .lenL (.tmp 13), []⟩,
         ⟨(some 15), (some (11, true)), .bin .eql (.tmp 14) (.const (.int .i64 0)), []⟩,
         ⟨(some 16), none, .pick (.tmp 11) (.tmp 15) (.const (.bool false)), []⟩,
         ⟨(some 17), none, .move (.tmp 16), []⟩,
         ⟨(some 18), (some (17, true)), .fld 1 (.tmp 1), []⟩,
         ⟨(some 19), (some (17, true)), .load false 1 (.tmp 18), []⟩,
         ⟨(some 20), (some (17, true)), .call 51 [(.tmp 19)], []⟩,
         ⟨(some 21), none, .pick (.tmp 17) (.tmp 20) (.const (.bool false)), []⟩,
         ⟨(some 2), none, .move (.tmp 21), []⟩])
       .ret)
      .skip))
    (.seq
     (.seq
      (.region [⟨(some 22), none, .fld 0 (.tmp 1), []⟩,
        ⟨(some 23), none, .load false 1 (.tmp 22), []⟩,
        ⟨(some 24), none, .call 52 [(.tmp 23)], []⟩,
        ⟨(some 25), none, .un .not (.tmp 24), []⟩,
        ⟨(some 26), none, .move (.tmp 25), []⟩,
        ⟨(some 27), (some (26, false)), .fld 1 (.tmp 1), []⟩,
        ⟨(some 28), (some (26, false)), .load false 1 (.tmp 27), []⟩,
        ⟨(some 29), (some (26, false)), .bin .neq (.tmp 28) (.const (.string ⟨#[]⟩)), []⟩,
        ⟨(some 30), none, .pick (.tmp 26) (.const (.bool true)) (.tmp 29), []⟩])
      (.cond (.tmp 30)
       (.seq
        (.region [⟨(some 2), none, .move (.const (.bool false)), []⟩])
        .ret)
       .skip))
     (.seq
      (.seq
       (.region [⟨(some 3), none, .move (.const (.int .i64 0)), []⟩])
       (.block 0
        (.loop
         (.seq
          (.seq
           (.region [⟨(some 31), none, .move (.tmp 3), []⟩,
             ⟨(some 32), none, .fld 2 (.tmp 1), []⟩,
             ⟨(some 33), none, .load false 1 (.tmp 32), []⟩,
             ⟨(some 34), none, .lenL (.tmp 33), []⟩,
             ⟨(some 35), none, .bin .lss (.tmp 31) (.tmp 34), []⟩])
           (.cond (.tmp 35)
            .skip
            (.exit 0)))
          (.seq
           (.block 1
            (.seq
             (.draw (⟨(some 38), none, .fld 2 (.tmp 1), []⟩ ::
               ⟨(some 39), none, .load false 1 (.tmp 38), [0]⟩ ::
               ⟨(some 40), none, .move (.tmp 3), []⟩ ::
               ⟨(some 41), none, .idxA 2 (.tmp 39) (.tmp 40), [1, 2]⟩ ::
               ⟨(some 42), none, .fld 0 (.tmp 41), [3]⟩ ::
               ⟨(some 43), none, .load false 1 (.tmp 42), [4]⟩ ::
               ⟨(some 44), none, .call 52 [(.tmp 43)], [5]⟩ ::
               ⟨(some 45), none, .un .not (.tmp 44), [6]⟩ ::
               ⟨(some 46), none, .move (.tmp 45), [7, 6]⟩ ::
               ⟨(some 47), (some (46, false)), .fld 2 (.tmp 1), [8]⟩ ::
               ⟨(some 48), (some (46, false)), .load false 1 (.tmp 47), [9, 8]⟩ ::
               ⟨(some 49), (some (46, false)), .move (.tmp 3), [8]⟩ ::
               ⟨(some 50), (some (46, false)), .idxA 2 (.tmp 48) (.tmp 49), [10, 11, 8]⟩ ::
               ⟨(some 51), (some (46, false)), .fld 1 (.tmp 50), [12, 8]⟩ ::
               ⟨(some 52), (some (46, false)), .load false 1 (.tmp 51), [13, 8]⟩ ::
               ⟨(some 53), (some (46, false)), .call 51 [(.tmp 52)], [14, 8, 8]⟩ ::
               ⟨(some 54), (some (46, false)), .un .not (.tmp 53), [15, 8]⟩ ::
               ⟨(some 55), none, .pick (.tmp 46) (.const (.bool true)) (.tmp 54), [8, 16]⟩ ::
               ⟨(some 56), none, .move (.tmp 55), [17, 15]⟩ ::
               ⟨(some 57), (some (56, false)), .move (.tmp 3), [18]⟩ ::
               ⟨(some 58), (some (56, false)), .bin .gtr (.tmp 57) (.const (.int .i64 0)), [19, 18]⟩ ::
               ⟨(some 59), (some (56, false)), .move (.tmp 58), [20, 18, 18]⟩ ::
               ⟨(some 60), (some (59, true)), .fld 2 (.tmp 1), [21]⟩ ::
               ⟨(some 61), (some (59, true)), .load false 1 (.tmp 60), [22, 21]⟩ ::
               ⟨(some 62), (some (59, true)), .move (.tmp 3), [21]⟩ ::
               ⟨(some 63), (some (59, true)), .bin .sub (.tmp 62) (.const (.int .i64 1)), [24, 21]⟩ ::
               ⟨(some 64), (some (59, true)), .idxA 2 (.tmp 61) (.tmp 63), [23, 25, 21]⟩ ::
               ⟨(some 65), (some (59, true)), .fld 0 (.tmp 64), [26, 21]⟩ ::
               ⟨(some 66), (some (59, true)), .load false 1 (.tmp 65), [27, 21]⟩ ::
               ⟨(some 67), (some (59, true)), .fld 2 (.tmp 1), [21]⟩ ::
               ⟨(some 68), (some (59, true)), .load false 1 (.tmp 67), [29, 21]⟩ ::
               ⟨(some 69), (some (59, true)), .move (.tmp 3), [21]⟩ ::
               ⟨(some 70), (some (59, true)), .idxA 2 (.tmp 68) (.tmp 69), [30, 31, 21]⟩ ::
               ⟨(some 71), (some (59, true)), .fld 0 (.tmp 70), [32, 21]⟩ ::
               ⟨(some 72), (some (59, true)), .load false 1 (.tmp 71), [33, 21]⟩ ::
               ⟨(some 73), (some (59, true)), .bin .geq (.tmp 66) (.tmp 72), [28, 34, 21]⟩ ::
               ⟨(some 74), (some (56, false)), .pick (.tmp 59) (.tmp 73) (.const (.bool false)), [21, 35, 18]⟩ ::
               ⟨(some 75), none, .pick (.tmp 56) (.const (.bool true)) (.tmp 74), [18, 36]⟩ :: []))
             (.cond (.tmp 75)
              (.seq
               (.region [⟨(some 2), none, .move (.const (.bool false)), []⟩])
               .ret)
              .skip)))
           (.region [⟨(some 36), none, .move (.tmp 3), []⟩,
             ⟨(some 37), none, .bin .add (.tmp 36) (.const (.int .i64 1)), []⟩,
             ⟨(some 3), none, .move (.tmp 37), []⟩]))))))
      (.seq
       (.region [⟨(some 2), none, .move (.const (.bool true)), []⟩])
       .ret)))))
theorem is42 : IsFn Tryd.prog 42 76 c42 [.tmp 2] :=
  .of Tryd.func42 rfl Tryd.ntmps42 (by kernel_rfl) (by kernel_rfl)

-- stencil/stencillaw0.SameAttrs (params 2)
def c43 : SCode :=
  (.seq
   (.region [⟨(some 4), none, .move (.const (.bool false)), []⟩])
   (.seq
    (.seq
     (.region [⟨(some 6), none, .move (.tmp 0), []⟩,
       ⟨(some 7), none, .lenL (.tmp 6), []⟩,
       ⟨(some 8), none, .move (.tmp 1), []⟩,
       ⟨(some 9), none, .lenL (.tmp 8), []⟩,
       ⟨(some 10), none, .bin .neq (.tmp 7) (.tmp 9), []⟩])
     (.cond (.tmp 10)
      (.seq
       (.region [⟨(some 4), none, .move (.const (.bool false)), []⟩])
       .ret)
      .skip))
    (.seq
     (.seq
      (.region [⟨(some 5), none, .move (.const (.int .i64 0)), []⟩])
      (.block 0
       (.loop
        (.seq
         (.seq
          (.region [⟨(some 11), none, .move (.tmp 5), []⟩,
            ⟨(some 12), none, .move (.tmp 0), []⟩,
            ⟨(some 13), none, .lenL (.tmp 12), []⟩,
            ⟨(some 14), none, .bin .lss (.tmp 11) (.tmp 13), []⟩])
          (.cond (.tmp 14)
           .skip
           (.exit 0)))
         (.seq
          (.block 1
           (.seq
            (.draw [⟨(some 17), none, .move (.tmp 0), []⟩,
              ⟨(some 18), none, .move (.tmp 5), []⟩,
              ⟨(some 19), none, .idxA 2 (.tmp 17) (.tmp 18), [0, 1]⟩,
              ⟨(some 20), none, .load true 2 (.tmp 19), [2]⟩,
              ⟨(some 21), none, .move (.tmp 1), []⟩,
              ⟨(some 22), none, .move (.tmp 5), []⟩,
              ⟨(some 23), none, .idxA 2 (.tmp 21) (.tmp 22), [4, 5]⟩,
              ⟨(some 24), none, .load true 2 (.tmp 23), [6]⟩,
              ⟨(some 25), none, .eqF .neq [1, 1] (.tmp 20) (.tmp 24), [3, 7]⟩])
            (.cond (.tmp 25)
             (.seq
              (.region [⟨(some 4), none, .move (.const (.bool false)), []⟩])
              .ret)
             .skip)))
          (.region [⟨(some 15), none, .move (.tmp 5), []⟩,
            ⟨(some 16), none, .bin .add (.tmp 15) (.const (.int .i64 1)), []⟩,
            ⟨(some 5), none, .move (.tmp 16), []⟩]))))))
     (.seq
      (.region [⟨(some 4), none, .move (.const (.bool true)), []⟩])
      .ret))))
theorem is43 : IsFn Tryd.prog 43 26 c43 [.tmp 4] :=
  .of Tryd.func43 rfl Tryd.ntmps43 (by kernel_rfl) (by kernel_rfl)

-- stencil/stencillaw0.SameTrees (params 2)
def c44 : SCode :=
  (.seq
   (.region [⟨(some 4), none, .move (.const (.bool false)), []⟩])
   (.seq
    (.seq
     (.region [⟨(some 6), none, .move (.tmp 0), []⟩,
       ⟨(some 7), none, .lenL (.tmp 6), []⟩,
       ⟨(some 8), none, .move (.tmp 1), []⟩,
       ⟨(some 9), none, .lenL (.tmp 8), []⟩,
       ⟨(some 10), none, .bin .neq (.tmp 7) (.tmp 9), []⟩])
     (.cond (.tmp 10)
      (.seq
       (.region [⟨(some 4), none, .move (.const (.bool false)), []⟩])
       .ret)
      .skip))
    (.seq
     (.seq
      (.region [⟨(some 5), none, .move (.const (.int .i64 0)), []⟩])
      (.block 0
       (.loop
        (.seq
         (.seq
          (.region [⟨(some 11), none, .move (.tmp 5), []⟩,
            ⟨(some 12), none, .move (.tmp 0), []⟩,
            ⟨(some 13), none, .lenL (.tmp 12), []⟩,
            ⟨(some 14), none, .bin .lss (.tmp 11) (.tmp 13), []⟩])
          (.cond (.tmp 14)
           .skip
           (.exit 0)))
         (.seq
          (.block 1
           (.seq
            (.draw [⟨(some 17), none, .move (.tmp 0), []⟩,
              ⟨(some 18), none, .move (.tmp 5), []⟩,
              ⟨(some 19), none, .idxA 4 (.tmp 17) (.tmp 18), [0, 1]⟩,
              ⟨(some 20), none, .load true 4 (.tmp 19), [2]⟩,
              ⟨(some 21), none, .move (.tmp 1), []⟩,
              ⟨(some 22), none, .move (.tmp 5), []⟩,
              ⟨(some 23), none, .idxA 4 (.tmp 21) (.tmp 22), [4, 5]⟩,
              ⟨(some 24), none, .load true 4 (.tmp 23), [6]⟩,
              ⟨(some 25), none, .call 30 [(.tmp 20), (.tmp 24)], [3, 7]⟩,
              ⟨(some 26), none, .un .not (.tmp 25), [8]⟩])
            (.cond (.tmp 26)
             (.seq
              (.region [⟨(some 4), none, .move (.const (.bool false)), []⟩])
              .ret)
             .skip)))
          (.region [⟨(some 15), none, .move (.tmp 5), []⟩,
            ⟨(some 16), none, .bin .add (.tmp 15) (.const (.int .i64 1)), []⟩,
            ⟨(some 5), none, .move (.tmp 16), []⟩]))))))
     (.seq
      (.region [⟨(some 4), none, .move (.const (.bool true)), []⟩])
      .ret))))
theorem is44 : IsFn Tryd.prog 44 27 c44 [.tmp 4] :=
  .of Tryd.func44 rfl Tryd.ntmps44 (by kernel_rfl) (by kernel_rfl)

-- stencil/stencillaw0.KeptAttrs (params 2)
def c45 : SCode :=
  (.seq
   (.region [⟨(some 4), none, .move (.const (.bool false)), []⟩])
   (.seq
    (.region [⟨(some 6), none, .move (.tmp 0), []⟩,
      ⟨(some 7), none, .move (.tmp 0), []⟩,
      ⟨(some 8), none, .lenL (.tmp 7), []⟩,
      ⟨(some 9), none, .bin .add (.tmp 8) (.const (.int .i64 2)), []⟩,
      ⟨(some 10), none, .slL 2 (.tmp 6) none (some (.tmp 9)) none, []⟩,
      ⟨(some 5), none, .move (.tmp 10), []⟩])
    (.seq
     (.region (⟨(some 11), none, .move (.tmp 0), []⟩ ::
       ⟨(some 12), none, .move (.tmp 1), []⟩ ::
       ⟨(some 13), none, .call 43 [(.tmp 11), (.tmp 12)], []⟩ ::
       ⟨(some 14), none, .move (.tmp 13), []⟩ ::
       ⟨(some 15), (some (14, true)), .move (.tmp 5), []⟩ ::
       ⟨(some 16), (some (14, true)), .move (.tmp 1), []⟩ ::
       ⟨(some 17), (some (14, true)), .lenL (.tmp 16), []⟩ ::
       ⟨(some 18), (some (14, true)), .idxA 2 (.tmp 15) (.tmp 17), []⟩ ::
       ⟨(some 19), (some (14, true)), .load true 2 (.tmp 18), []⟩ ::
       ⟨(some 20), (some (14, true)), .build [.v (.string ⟨#[]⟩), .v (.string ⟨#[]⟩)] [(0, 1, (.const (.string ⟨#[126, 114, 111, 111, 109]⟩)))], []⟩ ::
       ⟨(some 21), (some (14, true)), .eqF .eql [1, 1] (.tmp 19) (.tmp 20), []⟩ ::
       ⟨(some 22), none, .pick (.tmp 14) (.tmp 21) (.const (.bool false)), []⟩ ::
       ⟨(some 23), none, .move (.tmp 22), []⟩ ::
       ⟨(some 24), (some (23, true)), .move (.tmp 5), []⟩ ::
       ⟨(some 25), (some (23, true)), .move (.tmp 1), []⟩ ::
       ⟨(some 26), (some (23, true)), .lenL (.tmp 25), []⟩ ::
       ⟨(some 27), (some (23, true)), .bin .add (.tmp 26) (.const (.int .i64 1)), []⟩ ::
       ⟨(some 28), (some (23, true)), .idxA 2 (.tmp 24) (.tmp 27), []⟩ ::
       ⟨(some 29), (some (23, true)), .load true 2 (.tmp 28), []⟩ ::
       ⟨(some 30), (some (23, true)), .build [.v (.string ⟨#[]⟩), .v (.string ⟨#[]⟩)] [(0, 1, (.const (.string ⟨#[126, 114, 111, 111, 109]⟩)))], []⟩ ::
       ⟨(some 31), (some (23, true)), .eqF .eql [1, 1] (.tmp 29) (.tmp 30), []⟩ ::
       ⟨(some 32), none, .pick (.tmp 23) (.tmp 31) (.const (.bool false)), []⟩ ::
       ⟨(some 4), none, .move (.tmp 32), []⟩ :: []))
     .ret)))
theorem is45 : IsFn Tryd.prog 45 33 c45 [.tmp 4] :=
  .of Tryd.func45 rfl Tryd.ntmps45 (by kernel_rfl) (by kernel_rfl)

-- stencil/stencillaw0.CopyAttrs (params 1)
def c46 : SCode :=
  (.seq
   (.region [⟨(some 2), none, .move (.const (.slice none 0 0)), []⟩])
   (.seq
    (.region [⟨(some 3), none, .buildSl 2 0 [.v (.string ⟨#[]⟩), .v (.string ⟨#[]⟩)] [], []⟩,
      ⟨(some 4), none, .move (.tmp 0), []⟩,
      ⟨(some 5), none, .app 54 2 32 (.tmp 3) (.tmp 4), []⟩,
      ⟨(some 2), none, .move (.tmp 5), []⟩])
    .ret))
theorem is46 : IsFn Tryd.prog 46 6 c46 [.tmp 2] :=
  .of Tryd.func46 rfl Tryd.ntmps46 (by kernel_rfl) (by kernel_rfl)

-- stencil/forest.formed (params 1)
def c47 : SCode :=
  (.seq
   (.region [⟨(some 2), none, .move (.const (.bool false)), []⟩])
   (.seq
    (.seq
     (.region [⟨(some 5), none, .move (.tmp 0), []⟩,
       ⟨(some 6), none, .nilChk (.tmp 5), []⟩,
       ⟨(some 7), none, .fld 0 (.tmp 6), []⟩,
       ⟨(some 8), none, .load false 1 (.tmp 7), []⟩,
       ⟨(some 9), none, .bin .eql (.tmp 8) (.const (.string ⟨#[]⟩)), []⟩])
     (.cond (.tmp 9)
      (.seq
       (.region (⟨(some 10), none, .move (.tmp 0), []⟩ ::
         ⟨(some 11), none, .nilChk (.tmp 10), []⟩ ::
         ⟨(some 12), none, .fld 2 (.tmp 11), []⟩ ::
         ⟨(some 13), none, .load false 1 (.tmp 12), []⟩ ::
         ⟨(some 14), none, .lenL (.tmp 13), []⟩ ::
         ⟨(some 15), none, .bin .eql (.tmp 14) (.const (.int .i64 0)), []⟩ ::
         ⟨(some 16), none, .move (.tmp 15), []⟩ ::
         ⟨(some 17), (some (16, true)), .move (.tmp 0), []⟩ ::
         ⟨(some 18), (some (16, true)), .nilChk (.tmp 17), []⟩ ::
         ⟨(some 19), (some (16, true)), .fld 3 (.tmp 18), []⟩ ::
         ⟨(some 20), (some (16, true)), .load false 1 (.tmp 19), []⟩ ::
         ⟨(some 21), (some (16, true)), .lenL (.tmp 20), []⟩ ::
         ⟨(some 22), (some (16, true)), .bin .eql (.tmp 21) (.const (.int .i64 0)), []⟩ ::
         ⟨(some 23), none, .pick (.tmp 16) (.tmp 22) (.const (.bool false)), []⟩ ::
         ⟨(some 24), none, .move (.tmp 23), []⟩ ::
         ⟨(some 25), (some (24, true)), .move (.tmp 0), []⟩ ::
         ⟨(some 26), (some (24, true)), .nilChk (.tmp 25), []⟩ ::
         ⟨(some 27), (some (24, true)), .fld 1 (.tmp 26), []⟩ ::
         ⟨(some 28), (some (24, true)), .load false 1 (.tmp 27), []⟩ ::
         ⟨(some 29), (some (24, true)), .call 53 [(.tmp 28)], []⟩ ::
         ⟨(some 30), none, .pick (.tmp 24) (.tmp 29) (.const (.bool false)), []⟩ ::
         ⟨(some 2), none, .move (.tmp 30), []⟩ :: []))
       .ret)
      .skip))
    (.seq
     (.seq
      (.region [⟨(some 31), none, .move (.tmp 0), []⟩,
        ⟨(some 32), none, .nilChk (.tmp 31), []⟩,
        ⟨(some 33), none, .fld 2 (.tmp 32), []⟩,
        ⟨(some 34), none, .load false 1 (.tmp 33), []⟩,
        ⟨(some 35), none, .lenL (.tmp 34), []⟩,
        ⟨(some 36), none, .move (.const (.int .i64 0)), []⟩])
      (.block 0
       (.loop
        (.seq
         (.region [⟨(some 37), none, .bin .lss (.tmp 36) (.tmp 35), []⟩])
         (.seq
          (.cond (.tmp 37)
           .skip
           (.exit 0))
          (.seq
           (.block 1
            (.seq
             (.region [⟨(some 38), none, .move (.tmp 36), []⟩,
               ⟨(some 39), none, .idxA 2 (.tmp 34) (.tmp 36), []⟩,
               ⟨(some 40), none, .load true 2 (.tmp 39), []⟩,
               ⟨(some 4), none, .alloc 54 [.v (.string ⟨#[]⟩), .v (.string ⟨#[]⟩)], []⟩,
               ⟨(some 3), none, .move (.tmp 38), []⟩,
               ⟨none, none, .store 2 (.tmp 4) (.tmp 40), []⟩])
             (.seq
              (.draw (⟨(some 41), none, .move (.tmp 3), []⟩ ::
                ⟨(some 42), none, .bin .gtr (.tmp 41) (.const (.int .i64 0)), [0]⟩ ::
                ⟨(some 43), none, .move (.tmp 42), [1]⟩ ::
                ⟨(some 44), (some (43, true)), .move (.tmp 0), [2]⟩ ::
                ⟨(some 45), (some (43, true)), .nilChk (.tmp 44), [3, 2]⟩ ::
                ⟨(some 46), (some (43, true)), .fld 2 (.tmp 45), [4, 2]⟩ ::
                ⟨(some 47), (some (43, true)), .load false 1 (.tmp 46), [5, 2]⟩ ::
                ⟨(some 48), (some (43, true)), .move (.tmp 3), [2]⟩ ::
                ⟨(some 49), (some (43, true)), .bin .sub (.tmp 48) (.const (.int .i64 1)), [7, 2]⟩ ::
                ⟨(some 50), (some (43, true)), .idxA 2 (.tmp 47) (.tmp 49), [6, 8, 2]⟩ ::
                ⟨(some 51), (some (43, true)), .fld 0 (.tmp 50), [9, 2]⟩ ::
                ⟨(some 52), (some (43, true)), .load false 1 (.tmp 51), [10, 2]⟩ ::
                ⟨(some 53), (some (43, true)), .fld 0 (.tmp 4), [2]⟩ ::
                ⟨(some 54), (some (43, true)), .load false 1 (.tmp 53), [12, 2]⟩ ::
                ⟨(some 55), (some (43, true)), .call 54 [(.tmp 52), (.tmp 54)], [11, 13, 2, 2]⟩ ::
                ⟨(some 56), (some (43, true)), .bin .geq (.tmp 55) (.const (.int .i64 0)), [14, 2]⟩ ::
                ⟨(some 57), none, .pick (.tmp 43) (.tmp 56) (.const (.bool false)), [2, 15]⟩ ::
                ⟨(some 58), none, .move (.tmp 57), [16, 14]⟩ ::
                ⟨(some 59), (some (58, false)), .fld 0 (.tmp 4), [17]⟩ ::
                ⟨(some 60), (some (58, false)), .load false 1 (.tmp 59), [18, 17]⟩ ::
                ⟨(some 61), (some (58, false)), .call 55 [(.tmp 60)], [19, 17, 17]⟩ ::
                ⟨(some 62), (some (58, false)), .un .not (.tmp 61), [20, 17]⟩ ::
                ⟨(some 63), none, .pick (.tmp 58) (.const (.bool true)) (.tmp 62), [17, 21]⟩ ::
                ⟨(some 64), none, .move (.tmp 63), [22, 20]⟩ ::
                ⟨(some 65), (some (64, false)), .fld 1 (.tmp 4), [23]⟩ ::
                ⟨(some 66), (some (64, false)), .load false 1 (.tmp 65), [24, 23]⟩ ::
                ⟨(some 67), (some (64, false)), .call 53 [(.tmp 66)], [25, 23, 23]⟩ ::
                ⟨(some 68), (some (64, false)), .un .not (.tmp 67), [26, 23]⟩ ::
                ⟨(some 69), none, .pick (.tmp 64) (.const (.bool true)) (.tmp 68), [23, 27]⟩ :: []))
              (.cond (.tmp 69)
               (.seq
                (.region [⟨(some 2), none, .move (.const (.bool false)), []⟩])
                .ret)
               .skip))))
           (.region [⟨(some 70), none, .bin .add (.tmp 36) (.const (.int .i64 1)), []⟩,
             ⟨(some 36), none, .move (.tmp 70), []⟩])))))))
     (.seq
      (.region [⟨(some 71), none, .move (.tmp 0), []⟩,
        ⟨(some 72), none, .nilChk (.tmp 71), []⟩,
        ⟨(some 73), none, .fld 0 (.tmp 72), []⟩,
        ⟨(some 74), none, .load false 1 (.tmp 73), []⟩,
        ⟨(some 75), none, .call 55 [(.tmp 74)], []⟩,
        ⟨(some 76), none, .move (.tmp 75), []⟩,
        ⟨(some 77), (some (76, true)), .move (.tmp 0), []⟩,
        ⟨(some 78), (some (76, true)), .nilChk (.tmp 77), []⟩,
        ⟨(some 79), (some (76, true)), .fld 1 (.tmp 78), []⟩,
        ⟨(some 80), (some (76, true)), .load false 1 (.tmp 79), []⟩,
        ⟨(some 81), (some (76, true)), .bin .eql (.tmp 80) (.const (.string ⟨#[]⟩)), []⟩,
        ⟨(some 82), none, .pick (.tmp 76) (.tmp 81) (.const (.bool false)), []⟩,
        ⟨(some 2), none, .move (.tmp 82), []⟩])
      .ret))))
theorem is47 : IsFn Tryd.prog 47 83 c47 [.tmp 2] :=
  .of Tryd.func47 rfl Tryd.ntmps47 (by kernel_rfl) (by kernel_rfl)

-- (*strings.Builder).copyCheck (params 1)
def c48 : SCode :=
  (.seq
   (.region [⟨(some 2), none, .move (.tmp 0), []⟩,
     ⟨(some 3), none, .nilChk (.tmp 2), []⟩,
     ⟨(some 4), none, .fld 0 (.tmp 3), []⟩,
     ⟨(some 5), none, .load false 1 (.tmp 4), []⟩,
     ⟨(some 6), none, .eqP .eql (.tmp 5) (.const (.pointer none)), []⟩])
   (.cond (.tmp 6)
    (.region [⟨(some 7), none, .move (.tmp 0), []⟩,
      ⟨(some 8), none, .move (.tmp 0), []⟩,
      ⟨(some 9), none, .raw (Op.convert 43 75 (Operand.tmp 8)) 75, []⟩,
      ⟨(some 10), none, .raw (Op.call { callee := Callee.value (Operand.func 56), args := #[Operand.tmp 9], argTypes := #[75] }) 75, []⟩,
      ⟨(some 11), none, .raw (Op.convert 75 43 (Operand.tmp 10)) 43, []⟩,
      ⟨(some 12), none, .nilChk (.tmp 7), []⟩,
      ⟨(some 13), none, .fld 0 (.tmp 12), []⟩,
      ⟨none, none, .store 1 (.tmp 13) (.tmp 11), []⟩])
    (.seq
     (.region [⟨(some 14), none, .move (.tmp 0), []⟩,
       ⟨(some 15), none, .nilChk (.tmp 14), []⟩,
       ⟨(some 16), none, .fld 0 (.tmp 15), []⟩,
       ⟨(some 17), none, .load false 1 (.tmp 16), []⟩,
       ⟨(some 18), none, .move (.tmp 0), []⟩,
       ⟨(some 19), none, .eqP .neq (.tmp 17) (.tmp 18), []⟩])
     (.cond (.tmp 19)
      (.raw (Code.refuse
  "(*strings.Builder).copyCheck builder.go:41: unsupported: a written strings.Builder's value in another place: whether the library's copy check passes hangs on where the compiler lays the two"))
      .skip))))
theorem is48 : IsFn Tryd.prog 48 20 c48 [] :=
  .of Tryd.func48 rfl Tryd.ntmps48 (by kernel_rfl) (by kernel_rfl)

-- stencil/html.escaped (params 2)
def c49 : SCode :=
  (.seq
   (.region [⟨(some 4), none, .move (.const (.string ⟨#[]⟩)), []⟩])
   (.seq
    (.region [⟨(some 5), none, .alloc 46 [.v (.pointer none), .v (.slice none 0 0)], []⟩])
    (.seq
     (.seq
      (.region [⟨(some 8), none, .move (.tmp 0), []⟩,
        ⟨(some 9), none, .lenS (.tmp 8), []⟩,
        ⟨(some 10), none, .move (.const (.int .i64 0)), []⟩])
      (.block 0
       (.loop
        (.seq
         (.region [⟨(some 11), none, .bin .lss (.tmp 10) (.tmp 9), []⟩])
         (.seq
          (.cond (.tmp 11)
           .skip
           (.exit 0))
          (.seq
           (.block 1
            (.seq
             (.region [⟨(some 12), none, .move (.tmp 10), []⟩,
               ⟨(some 6), none, .move (.tmp 12), []⟩])
             (.seq
              (.region [⟨(some 13), none, .move (.tmp 0), []⟩,
                ⟨(some 14), none, .move (.tmp 6), []⟩,
                ⟨(some 15), none, .idxS (.tmp 13) (.tmp 14), []⟩,
                ⟨(some 16), none, .move (.tmp 1), []⟩,
                ⟨(some 17), none, .call 57 [(.tmp 15), (.tmp 16)], []⟩,
                ⟨(some 7), none, .move (.tmp 17), []⟩])
              (.seq
               (.region [⟨(some 18), none, .move (.tmp 7), []⟩,
                 ⟨(some 19), none, .bin .neq (.tmp 18) (.const (.string ⟨#[]⟩)), []⟩])
               (.cond (.tmp 19)
                (.region [⟨(some 20), none, .move (.tmp 7), []⟩,
                  ⟨(some 21), none, .call 36 [(.tmp 5), (.tmp 20)], []⟩])
                (.region [⟨(some 22), none, .move (.tmp 0), []⟩,
                  ⟨(some 23), none, .move (.tmp 6), []⟩,
                  ⟨(some 24), none, .idxS (.tmp 22) (.tmp 23), []⟩,
                  ⟨(some 25), none, .call 39 [(.tmp 5), (.tmp 24)], []⟩]))))))
           (.region [⟨(some 26), none, .bin .add (.tmp 10) (.const (.int .i64 1)), []⟩,
             ⟨(some 10), none, .move (.tmp 26), []⟩])))))))
     (.seq
      (.region [⟨(some 27), none, .call 26 [(.tmp 5)], []⟩,
        ⟨(some 4), none, .move (.tmp 27), []⟩])
      .ret))))
theorem is49 : IsFn Tryd.prog 49 28 c49 [.tmp 4] :=
  .of Tryd.func49 rfl Tryd.ntmps49 (by kernel_rfl) (by kernel_rfl)

-- stencil/stencilref4.escaped (params 2)
def c50 : SCode :=
  (.seq
   (.region [⟨(some 4), none, .move (.const (.string ⟨#[]⟩)), []⟩])
   (.seq
    (.region [⟨(some 5), none, .move (.const (.slice none 0 0)), []⟩])
    (.seq
     (.seq
      (.region [⟨(some 6), none, .move (.const (.int .i64 0)), []⟩])
      (.block 0
       (.loop
        (.seq
         (.seq
          (.region [⟨(some 8), none, .move (.tmp 6), []⟩,
            ⟨(some 9), none, .move (.tmp 0), []⟩,
            ⟨(some 10), none, .lenS (.tmp 9), []⟩,
            ⟨(some 11), none, .bin .lss (.tmp 8) (.tmp 10), []⟩])
          (.cond (.tmp 11)
           .skip
           (.exit 0)))
         (.seq
          (.block 1
           (.seq
            (.region [⟨(some 14), none, .move (.tmp 0), []⟩,
              ⟨(some 15), none, .move (.tmp 6), []⟩,
              ⟨(some 16), none, .idxS (.tmp 14) (.tmp 15), []⟩,
              ⟨(some 17), none, .move (.tmp 1), []⟩,
              ⟨(some 18), none, .call 58 [(.tmp 16), (.tmp 17)], []⟩,
              ⟨(some 7), none, .move (.tmp 18), []⟩])
            (.seq
             (.region [⟨(some 19), none, .move (.tmp 7), []⟩,
               ⟨(some 20), none, .bin .eql (.tmp 19) (.const (.string ⟨#[]⟩)), []⟩])
             (.cond (.tmp 20)
              (.region [⟨(some 21), none, .move (.tmp 5), []⟩,
                ⟨(some 22), none, .move (.tmp 0), []⟩,
                ⟨(some 23), none, .move (.tmp 6), []⟩,
                ⟨(some 24), none, .idxS (.tmp 22) (.tmp 23), []⟩,
                ⟨(some 25), none, .buildSl 1 1 [.v (.int .u8 0)] [(0, (.tmp 24))], []⟩,
                ⟨(some 26), none, .app 5 1 1 (.tmp 21) (.tmp 25), []⟩,
                ⟨(some 5), none, .move (.tmp 26), []⟩])
              (.region [⟨(some 27), none, .move (.tmp 5), []⟩,
                ⟨(some 28), none, .move (.tmp 7), []⟩,
                ⟨(some 29), none, .appS 5 (.tmp 27) (.tmp 28), []⟩,
                ⟨(some 5), none, .move (.tmp 29), []⟩])))))
          (.region [⟨(some 12), none, .move (.tmp 6), []⟩,
            ⟨(some 13), none, .bin .add (.tmp 12) (.const (.int .i64 1)), []⟩,
            ⟨(some 6), none, .move (.tmp 13), []⟩]))))))
     (.seq
      (.region [⟨(some 30), none, .move (.tmp 5), []⟩,
        ⟨(some 31), none, .bytesStr (.tmp 30), []⟩,
        ⟨(some 4), none, .move (.tmp 31), []⟩])
      .ret))))
theorem is50 : IsFn Tryd.prog 50 32 c50 [.tmp 4] :=
  .of Tryd.func50 rfl Tryd.ntmps50 (by kernel_rfl) (by kernel_rfl)

-- stencil/stencilref3.Good (params 1)
def c51 : SCode :=
  (.seq
   (.region [⟨(some 2), none, .move (.const (.bool false)), []⟩])
   (.seq
    (.seq
     (.region [⟨(some 5), none, .move (.tmp 0), []⟩,
       ⟨(some 6), none, .lenS (.tmp 5), []⟩,
       ⟨(some 7), none, .bin .gtr (.tmp 6) (.const (.int .i64 4096)), []⟩])
     (.cond (.tmp 7)
      (.seq
       (.region [⟨(some 2), none, .move (.const (.bool false)), []⟩])
       .ret)
      .skip))
    (.seq
     (.region [⟨(some 9), none, .move (.tmp 0), []⟩,
       ⟨(some 10), none, .call 59 [(.tmp 9)], []⟩,
       ⟨(some 8), none, .move (.tmp 10), []⟩,
       ⟨(some 11), none, .ext (.tmp 8) 0, []⟩,
       ⟨(some 12), none, .ext (.tmp 8) 1, []⟩,
       ⟨(some 3), none, .move (.tmp 11), []⟩,
       ⟨(some 4), none, .move (.tmp 12), []⟩])
     (.seq
      (.region [⟨(some 13), none, .move (.tmp 4), []⟩,
        ⟨(some 14), none, .bin .eql (.tmp 13) (.const (.int .i64 0)), []⟩,
        ⟨(some 2), none, .move (.tmp 14), []⟩])
      .ret))))
theorem is51 : IsFn Tryd.prog 51 15 c51 [.tmp 2] :=
  .of Tryd.func51 rfl Tryd.ntmps51 (by kernel_rfl) (by kernel_rfl)

-- stencil/stencilref3.Tag (params 1)
def c52 : SCode :=
  (.seq
   (.region [⟨(some 2), none, .move (.const (.bool false)), []⟩])
   (.seq
    (.region [⟨(some 3), none, .move (.tmp 0), []⟩,
      ⟨(some 4), none, .call 60 [(.tmp 3), (.const (.int .u8 45))], []⟩,
      ⟨(some 2), none, .move (.tmp 4), []⟩])
    .ret))
theorem is52 : IsFn Tryd.prog 52 5 c52 [.tmp 2] :=
  .of Tryd.func52 rfl Tryd.ntmps52 (by kernel_rfl) (by kernel_rfl)

-- stencil/forest.text (params 1)
def c53 : SCode :=
  (.seq
   (.region [⟨(some 2), none, .move (.const (.bool false)), []⟩])
   (.seq
    (.region [⟨(some 6), none, .move (.tmp 0), []⟩,
      ⟨(some 7), none, .call 61 [(.tmp 6)], []⟩,
      ⟨(some 5), none, .move (.tmp 7), []⟩,
      ⟨(some 8), none, .ext (.tmp 5) 0, []⟩,
      ⟨(some 9), none, .ext (.tmp 5) 1, []⟩,
      ⟨(some 3), none, .move (.tmp 8), []⟩,
      ⟨(some 4), none, .move (.tmp 9), []⟩])
    (.seq
     (.region [⟨(some 10), none, .move (.tmp 4), []⟩,
       ⟨(some 11), none, .bin .eql (.tmp 10) (.const (.int .i64 0)), []⟩,
       ⟨(some 12), none, .move (.tmp 11), []⟩,
       ⟨(some 13), (some (12, true)), .move (.tmp 0), []⟩,
       ⟨(some 14), (some (12, true)), .lenS (.tmp 13), []⟩,
       ⟨(some 15), (some (12, true)), .bin .leq (.tmp 14) (.const (.int .i64 4096)), []⟩,
       ⟨(some 16), none, .pick (.tmp 12) (.tmp 15) (.const (.bool false)), []⟩,
       ⟨(some 2), none, .move (.tmp 16), []⟩])
     .ret)))
theorem is53 : IsFn Tryd.prog 53 17 c53 [.tmp 2] :=
  .of Tryd.func53 rfl Tryd.ntmps53 (by kernel_rfl) (by kernel_rfl)

-- cmp.Compare[string] (params 2)
def c54 : SCode :=
  (.seq
   (.region [⟨(some 4), none, .move (.const (.int .i64 0)), []⟩])
   (.seq
    (.region [⟨(some 7), none, .move (.tmp 0), []⟩,
      ⟨(some 8), none, .call 62 [(.tmp 7)], []⟩,
      ⟨(some 5), none, .move (.tmp 8), []⟩])
    (.seq
     (.region [⟨(some 9), none, .move (.tmp 1), []⟩,
       ⟨(some 10), none, .call 62 [(.tmp 9)], []⟩,
       ⟨(some 6), none, .move (.tmp 10), []⟩])
     (.seq
      (.seq
       (.region [⟨(some 11), none, .move (.tmp 5), []⟩])
       (.cond (.tmp 11)
        (.seq
         (.seq
          (.region [⟨(some 12), none, .move (.tmp 6), []⟩])
          (.cond (.tmp 12)
           (.seq
            (.region [⟨(some 4), none, .move (.const (.int .i64 0)), []⟩])
            .ret)
           .skip))
         (.seq
          (.region [⟨(some 4), none, .move (.const (.int .i64 (-1))), []⟩])
          .ret))
        .skip))
      (.seq
       (.seq
        (.region [⟨(some 13), none, .move (.tmp 6), []⟩])
        (.cond (.tmp 13)
         (.seq
          (.region [⟨(some 4), none, .move (.const (.int .i64 1)), []⟩])
          .ret)
         .skip))
       (.seq
        (.seq
         (.region [⟨(some 14), none, .move (.tmp 0), []⟩,
           ⟨(some 15), none, .move (.tmp 1), []⟩,
           ⟨(some 16), none, .bin .lss (.tmp 14) (.tmp 15), []⟩])
         (.cond (.tmp 16)
          (.seq
           (.region [⟨(some 4), none, .move (.const (.int .i64 (-1))), []⟩])
           .ret)
          .skip))
        (.seq
         (.seq
          (.region [⟨(some 17), none, .move (.tmp 0), []⟩,
            ⟨(some 18), none, .move (.tmp 1), []⟩,
            ⟨(some 19), none, .bin .gtr (.tmp 17) (.tmp 18), []⟩])
          (.cond (.tmp 19)
           (.seq
            (.region [⟨(some 4), none, .move (.const (.int .i64 1)), []⟩])
            .ret)
           .skip))
         (.seq
          (.region [⟨(some 4), none, .move (.const (.int .i64 0)), []⟩])
          .ret))))))))
theorem is54 : IsFn Tryd.prog 54 20 c54 [.tmp 4] :=
  .of Tryd.func54 rfl Tryd.ntmps54 (by kernel_rfl) (by kernel_rfl)

-- stencil/utf.Tag (params 1)
def c55 : SCode :=
  (.seq
   (.region [⟨(some 2), none, .move (.const (.bool false)), []⟩])
   (.seq
    (.region [⟨(some 3), none, .move (.tmp 0), []⟩,
      ⟨(some 4), none, .call 63 [(.tmp 3), (.const (.int .u8 45))], []⟩,
      ⟨(some 2), none, .move (.tmp 4), []⟩])
    .ret))
theorem is55 : IsFn Tryd.prog 55 5 c55 [.tmp 2] :=
  .of Tryd.func55 rfl Tryd.ntmps55 (by kernel_rfl) (by kernel_rfl)

-- stencil/html.written (params 2)
def c57 : SCode :=
  (.seq
   (.region [⟨(some 4), none, .move (.const (.string ⟨#[]⟩)), []⟩])
   (.seq
    (.seq
     (.region [⟨(some 5), none, .move (.tmp 0), []⟩])
     (.block 0
      (.seq
       (.region [⟨(some 7), none, .bin .eql (.tmp 5) (.const (.int .u8 38)), []⟩,
         ⟨(some 6), none, .move (.tmp 7), []⟩])
       (.cond (.tmp 6)
        (.seq
         (.region [⟨(some 4), none, .move (.const (.string ⟨#[38, 97, 109, 112, 59]⟩)), []⟩])
         .ret)
        (.seq
         (.region [⟨(some 9), none, .bin .eql (.tmp 5) (.const (.int .u8 60)), []⟩,
           ⟨(some 8), none, .move (.tmp 9), []⟩])
         (.cond (.tmp 8)
          (.seq
           (.region [⟨(some 4), none, .move (.const (.string ⟨#[38, 108, 116, 59]⟩)), []⟩])
           .ret)
          (.seq
           (.region [⟨(some 11), none, .bin .eql (.tmp 5) (.const (.int .u8 62)), []⟩,
             ⟨(some 10), none, .move (.tmp 11), []⟩])
           (.cond (.tmp 10)
            (.seq
             (.region [⟨(some 4), none, .move (.const (.string ⟨#[38, 103, 116, 59]⟩)), []⟩])
             .ret)
            (.seq
             (.region [⟨(some 13), none, .bin .eql (.tmp 5) (.const (.int .u8 123)), []⟩,
               ⟨(some 12), none, .move (.tmp 13), []⟩])
             (.cond (.tmp 12)
              (.seq
               (.region [⟨(some 4), none, .move (.const (.string ⟨#[38, 108, 98, 114, 97, 99, 101, 59]⟩)), []⟩])
               .ret)
              (.seq
               (.region [⟨(some 15), none, .bin .eql (.tmp 5) (.const (.int .u8 34)), []⟩,
                 ⟨(some 14), none, .move (.tmp 15), []⟩])
               (.cond (.tmp 14)
                (.seq
                 (.region [⟨(some 16), none, .move (.tmp 1), []⟩])
                 (.cond (.tmp 16)
                  (.seq
                   (.region [⟨(some 4), none, .move (.const (.string ⟨#[38, 113, 117, 111, 116, 59]⟩)), []⟩])
                   .ret)
                  .skip))
                .skip))))))))))))
    (.seq
     (.region [⟨(some 4), none, .move (.const (.string ⟨#[]⟩)), []⟩])
     .ret)))
theorem is57 : IsFn Tryd.prog 57 17 c57 [.tmp 4] :=
  .of Tryd.func57 rfl Tryd.ntmps57 (by kernel_rfl) (by kernel_rfl)

-- stencil/stencilref4.entity (params 2)
def c58 : SCode :=
  (.seq
   (.region [⟨(some 4), none, .move (.const (.string ⟨#[]⟩)), []⟩])
   (.seq
    (.block 0
     (.seq
      (.region [⟨(some 6), none, .move (.tmp 0), []⟩,
        ⟨(some 7), none, .bin .eql (.tmp 6) (.const (.int .u8 38)), []⟩,
        ⟨(some 5), none, .move (.tmp 7), []⟩])
      (.cond (.tmp 5)
       (.seq
        (.region [⟨(some 4), none, .move (.const (.string ⟨#[38, 97, 109, 112, 59]⟩)), []⟩])
        .ret)
       (.seq
        (.region [⟨(some 9), none, .move (.tmp 0), []⟩,
          ⟨(some 10), none, .bin .eql (.tmp 9) (.const (.int .u8 60)), []⟩,
          ⟨(some 8), none, .move (.tmp 10), []⟩])
        (.cond (.tmp 8)
         (.seq
          (.region [⟨(some 4), none, .move (.const (.string ⟨#[38, 108, 116, 59]⟩)), []⟩])
          .ret)
         (.seq
          (.region [⟨(some 12), none, .move (.tmp 0), []⟩,
            ⟨(some 13), none, .bin .eql (.tmp 12) (.const (.int .u8 62)), []⟩,
            ⟨(some 11), none, .move (.tmp 13), []⟩])
          (.cond (.tmp 11)
           (.seq
            (.region [⟨(some 4), none, .move (.const (.string ⟨#[38, 103, 116, 59]⟩)), []⟩])
            .ret)
           (.seq
            (.region [⟨(some 15), none, .move (.tmp 0), []⟩,
              ⟨(some 16), none, .bin .eql (.tmp 15) (.const (.int .u8 123)), []⟩,
              ⟨(some 14), none, .move (.tmp 16), []⟩])
            (.cond (.tmp 14)
             (.seq
              (.region [⟨(some 4), none, .move (.const (.string ⟨#[38, 108, 98, 114, 97, 99, 101, 59]⟩)), []⟩])
              .ret)
             (.seq
              (.region [⟨(some 18), none, .move (.tmp 0), []⟩,
                ⟨(some 19), none, .bin .eql (.tmp 18) (.const (.int .u8 34)), []⟩,
                ⟨(some 20), none, .move (.tmp 19), []⟩,
                ⟨(some 21), (some (20, true)), .move (.tmp 1), []⟩,
                ⟨(some 22), none, .pick (.tmp 20) (.tmp 21) (.const (.bool false)), []⟩,
                ⟨(some 17), none, .move (.tmp 22), []⟩])
              (.cond (.tmp 17)
               (.seq
                (.region [⟨(some 4), none, .move (.const (.string ⟨#[38, 113, 117, 111, 116, 59]⟩)), []⟩])
                .ret)
               .skip)))))))))))
    (.seq
     (.region [⟨(some 4), none, .move (.const (.string ⟨#[]⟩)), []⟩])
     .ret)))
theorem is58 : IsFn Tryd.prog 58 23 c58 [.tmp 4] :=
  .of Tryd.func58 rfl Tryd.ntmps58 (by kernel_rfl) (by kernel_rfl)

-- stencil/stencilref3.Valid (params 1)
def c59 : SCode :=
  (.seq
   (.region [⟨(some 2), none, .move (.const (.int .i64 0)), []⟩,
     ⟨(some 3), none, .move (.const (.int .i64 0)), []⟩])
   (.seq
    (.region [⟨(some 4), none, .move (.const (.int .i64 0)), []⟩])
    (.seq
     (.block 0
      (.loop
       (.seq
        (.seq
         (.region [⟨(some 6), none, .move (.tmp 4), []⟩,
           ⟨(some 7), none, .move (.tmp 0), []⟩,
           ⟨(some 8), none, .lenS (.tmp 7), []⟩,
           ⟨(some 9), none, .bin .lss (.tmp 6) (.tmp 8), []⟩])
         (.cond (.tmp 9)
          .skip
          (.exit 0)))
        (.block 1
         (.seq
          (.region [⟨(some 10), none, .move (.tmp 0), []⟩,
            ⟨(some 11), none, .move (.tmp 4), []⟩,
            ⟨(some 12), none, .call 64 [(.tmp 10), (.tmp 11)], []⟩,
            ⟨(some 5), none, .move (.tmp 12), []⟩])
          (.seq
           (.seq
            (.region [⟨(some 13), none, .move (.tmp 5), []⟩,
              ⟨(some 14), none, .bin .eql (.tmp 13) (.const (.int .i64 0)), []⟩])
            (.cond (.tmp 14)
             (.seq
              (.region [⟨(some 15), none, .move (.tmp 4), []⟩,
                ⟨(some 2), none, .move (.tmp 15), []⟩,
                ⟨(some 3), none, .move (.const (.int .i64 300)), []⟩])
              .ret)
             .skip))
           (.region [⟨(some 16), none, .move (.tmp 4), []⟩,
             ⟨(some 17), none, .move (.tmp 5), []⟩,
             ⟨(some 18), none, .bin .add (.tmp 16) (.tmp 17), []⟩,
             ⟨(some 4), none, .move (.tmp 18), []⟩])))))))
     (.seq
      (.region [⟨(some 2), none, .move (.const (.int .i64 0)), []⟩,
        ⟨(some 3), none, .move (.const (.int .i64 0)), []⟩])
      .ret))))
theorem is59 : IsFn Tryd.prog 59 19 c59 [.tmp 2, .tmp 3] :=
  .of Tryd.func59 rfl Tryd.ntmps59 (by kernel_rfl) (by kernel_rfl)

-- stencil/stencilref3.word (params 2)
def c60 : SCode :=
  (.seq
   (.region [⟨(some 4), none, .move (.const (.bool false)), []⟩])
   (.seq
    (.seq
     (.region [⟨(some 7), none, .move (.tmp 0), []⟩,
       ⟨(some 8), none, .lenS (.tmp 7), []⟩,
       ⟨(some 9), none, .bin .lss (.tmp 8) (.const (.int .i64 1)), []⟩,
       ⟨(some 10), none, .move (.tmp 9), []⟩,
       ⟨(some 11), (some (10, false)), .move (.tmp 0), []⟩,
       ⟨(some 12), (some (10, false)), .lenS (.tmp 11), []⟩,
       ⟨(some 13), (some (10, false)), .bin .gtr (.tmp 12) (.const (.int .i64 32)), []⟩,
       ⟨(some 14), none, .pick (.tmp 10) (.const (.bool true)) (.tmp 13), []⟩,
       ⟨(some 15), none, .move (.tmp 14), []⟩,
       ⟨(some 16), (some (15, false)), .move (.tmp 0), []⟩,
       ⟨(some 17), (some (15, false)), .idxS (.tmp 16) (.const (.int .i64 0)), []⟩,
       ⟨(some 18), (some (15, false)), .bin .lss (.tmp 17) (.const (.int .u8 97)), []⟩,
       ⟨(some 19), none, .pick (.tmp 15) (.const (.bool true)) (.tmp 18), []⟩,
       ⟨(some 20), none, .move (.tmp 19), []⟩,
       ⟨(some 21), (some (20, false)), .move (.tmp 0), []⟩,
       ⟨(some 22), (some (20, false)), .idxS (.tmp 21) (.const (.int .i64 0)), []⟩,
       ⟨(some 23), (some (20, false)), .bin .gtr (.tmp 22) (.const (.int .u8 122)), []⟩,
       ⟨(some 24), none, .pick (.tmp 20) (.const (.bool true)) (.tmp 23), []⟩])
     (.cond (.tmp 24)
      (.seq
       (.region [⟨(some 4), none, .move (.const (.bool false)), []⟩])
       .ret)
      .skip))
    (.seq
     (.seq
      (.region [⟨(some 5), none, .move (.const (.int .i64 1)), []⟩])
      (.block 0
       (.loop
        (.seq
         (.seq
          (.region [⟨(some 25), none, .move (.tmp 5), []⟩,
            ⟨(some 26), none, .move (.tmp 0), []⟩,
            ⟨(some 27), none, .lenS (.tmp 26), []⟩,
            ⟨(some 28), none, .bin .lss (.tmp 25) (.tmp 27), []⟩])
          (.cond (.tmp 28)
           .skip
           (.exit 0)))
         (.seq
          (.block 1
           (.seq
            (.region [⟨(some 31), none, .move (.tmp 0), []⟩,
              ⟨(some 32), none, .move (.tmp 5), []⟩,
              ⟨(some 33), none, .idxS (.tmp 31) (.tmp 32), []⟩,
              ⟨(some 6), none, .move (.tmp 33), []⟩])
            (.seq
             (.region [⟨(some 34), none, .move (.tmp 6), []⟩,
               ⟨(some 35), none, .bin .lss (.tmp 34) (.const (.int .u8 97)), []⟩,
               ⟨(some 36), none, .move (.tmp 35), []⟩,
               ⟨(some 37), (some (36, false)), .move (.tmp 6), []⟩,
               ⟨(some 38), (some (36, false)), .bin .gtr (.tmp 37) (.const (.int .u8 122)), []⟩,
               ⟨(some 39), none, .pick (.tmp 36) (.const (.bool true)) (.tmp 38), []⟩,
               ⟨(some 40), none, .move (.tmp 39), []⟩,
               ⟨(some 41), (some (40, true)), .move (.tmp 6), []⟩,
               ⟨(some 42), (some (40, true)), .bin .lss (.tmp 41) (.const (.int .u8 48)), []⟩,
               ⟨(some 43), (some (40, true)), .move (.tmp 42), []⟩,
               ⟨(some 44), (some (43, false)), .move (.tmp 6), []⟩,
               ⟨(some 45), (some (43, false)), .bin .gtr (.tmp 44) (.const (.int .u8 57)), []⟩,
               ⟨(some 46), (some (40, true)), .pick (.tmp 43) (.const (.bool true)) (.tmp 45), []⟩,
               ⟨(some 47), none, .pick (.tmp 40) (.tmp 46) (.const (.bool false)), []⟩,
               ⟨(some 48), none, .move (.tmp 47), []⟩,
               ⟨(some 49), (some (48, true)), .move (.tmp 6), []⟩,
               ⟨(some 50), (some (48, true)), .move (.tmp 1), []⟩,
               ⟨(some 51), (some (48, true)), .bin .neq (.tmp 49) (.tmp 50), []⟩,
               ⟨(some 52), none, .pick (.tmp 48) (.tmp 51) (.const (.bool false)), []⟩])
             (.cond (.tmp 52)
              (.seq
               (.region [⟨(some 4), none, .move (.const (.bool false)), []⟩])
               .ret)
              .skip))))
          (.region [⟨(some 29), none, .move (.tmp 5), []⟩,
            ⟨(some 30), none, .bin .add (.tmp 29) (.const (.int .i64 1)), []⟩,
            ⟨(some 5), none, .move (.tmp 30), []⟩]))))))
     (.seq
      (.region [⟨(some 4), none, .move (.const (.bool true)), []⟩])
      .ret))))
theorem is60 : IsFn Tryd.prog 60 53 c60 [.tmp 4] :=
  .of Tryd.func60 rfl Tryd.ntmps60 (by kernel_rfl) (by kernel_rfl)

-- stencil/utf.Valid (params 1)
def c61 : SCode :=
  (.seq
   (.region [⟨(some 2), none, .move (.const (.int .i64 0)), []⟩,
     ⟨(some 3), none, .move (.const (.int .i64 0)), []⟩])
   (.seq
    (.seq
     (.region [⟨(some 8), none, .move (.tmp 0), []⟩,
       ⟨(some 9), none, .raw (Op.range 9 (Operand.tmp 8)) 0, []⟩])
     (.block 0
      (.loop
       (.seq
        (.region [⟨(some 10), none, .raw (Op.next (Operand.tmp 9) true) 0, []⟩,
          ⟨(some 11), none, .ext (.tmp 10) 0, []⟩])
        (.seq
         (.cond (.tmp 11)
          .skip
          (.exit 0))
         (.block 1
          (.seq
           (.region [⟨(some 12), none, .ext (.tmp 10) 1, []⟩,
             ⟨(some 13), none, .ext (.tmp 10) 2, []⟩,
             ⟨(some 4), none, .move (.tmp 12), []⟩,
             ⟨(some 5), none, .move (.tmp 13), []⟩])
           (.seq
            (.region [⟨(some 14), none, .move (.tmp 5), []⟩,
              ⟨(some 15), none, .bin .eql (.tmp 14) (.const (.int .i32 65533)), []⟩])
            (.cond (.tmp 15)
             (.seq
              (.region [⟨(some 17), none, .move (.tmp 0), []⟩,
                ⟨(some 18), none, .move (.tmp 4), []⟩,
                ⟨(some 19), none, .slS (.tmp 17) (some (.tmp 18)) none, []⟩,
                ⟨(some 20), none, .call 65 [(.tmp 19)], []⟩,
                ⟨(some 16), none, .move (.tmp 20), []⟩,
                ⟨(some 21), none, .ext (.tmp 16) 0, []⟩,
                ⟨(some 22), none, .ext (.tmp 16) 1, []⟩,
                ⟨(some 6), none, .move (.tmp 21), []⟩,
                ⟨(some 7), none, .move (.tmp 22), []⟩])
              (.seq
               (.region [⟨(some 23), none, .move (.tmp 7), []⟩,
                 ⟨(some 24), none, .bin .eql (.tmp 23) (.const (.int .i64 1)), []⟩])
               (.cond (.tmp 24)
                (.seq
                 (.region [⟨(some 25), none, .move (.tmp 4), []⟩,
                   ⟨(some 2), none, .move (.tmp 25), []⟩,
                   ⟨(some 3), none, .move (.const (.int .i64 300)), []⟩])
                 .ret)
                .skip)))
             .skip)))))))))
    (.seq
     (.region [⟨(some 2), none, .move (.const (.int .i64 0)), []⟩,
       ⟨(some 3), none, .move (.const (.int .i64 0)), []⟩])
     .ret)))
theorem is61 : IsFn Tryd.prog 61 26 c61 [.tmp 2, .tmp 3] :=
  .of Tryd.func61 rfl Tryd.ntmps61 (by kernel_rfl) (by kernel_rfl)

-- cmp.isNaN[string] (params 1)
def c62 : SCode :=
  (.seq
   (.region [⟨(some 2), none, .move (.const (.bool false)), []⟩])
   (.seq
    (.region [⟨(some 3), none, .move (.tmp 0), []⟩,
      ⟨(some 4), none, .move (.tmp 0), []⟩,
      ⟨(some 5), none, .bin .neq (.tmp 3) (.tmp 4), []⟩,
      ⟨(some 2), none, .move (.tmp 5), []⟩])
    .ret))
theorem is62 : IsFn Tryd.prog 62 6 c62 [.tmp 2] :=
  .of Tryd.func62 rfl Tryd.ntmps62 (by kernel_rfl) (by kernel_rfl)

-- stencil/utf.spelt (params 2)
def c63 : SCode :=
  (.seq
   (.region [⟨(some 4), none, .move (.const (.bool false)), []⟩])
   (.seq
    (.seq
     (.region [⟨(some 8), none, .move (.tmp 0), []⟩,
       ⟨(some 9), none, .lenS (.tmp 8), []⟩,
       ⟨(some 10), none, .move (.const (.int .i64 0)), []⟩])
     (.block 0
      (.loop
       (.seq
        (.region [⟨(some 11), none, .bin .lss (.tmp 10) (.tmp 9), []⟩])
        (.seq
         (.cond (.tmp 11)
          .skip
          (.exit 0))
         (.seq
          (.block 1
           (.seq
            (.region [⟨(some 12), none, .move (.tmp 10), []⟩,
              ⟨(some 5), none, .move (.tmp 12), []⟩])
            (.seq
             (.region [⟨(some 13), none, .move (.tmp 0), []⟩,
               ⟨(some 14), none, .move (.tmp 5), []⟩,
               ⟨(some 15), none, .idxS (.tmp 13) (.tmp 14), []⟩,
               ⟨(some 6), none, .move (.tmp 15), []⟩])
             (.seq
              (.region [⟨(some 16), none, .move (.tmp 6), []⟩,
                ⟨(some 17), none, .bin .geq (.tmp 16) (.const (.int .u8 97)), []⟩,
                ⟨(some 18), none, .move (.tmp 17), []⟩,
                ⟨(some 19), (some (18, true)), .move (.tmp 6), []⟩,
                ⟨(some 20), (some (18, true)), .bin .leq (.tmp 19) (.const (.int .u8 122)), []⟩,
                ⟨(some 21), none, .pick (.tmp 18) (.tmp 20) (.const (.bool false)), []⟩,
                ⟨(some 7), none, .move (.tmp 21), []⟩])
              (.seq
               (.region [⟨(some 22), none, .move (.tmp 7), []⟩,
                 ⟨(some 23), none, .un .not (.tmp 22), []⟩,
                 ⟨(some 24), none, .move (.tmp 23), []⟩,
                 ⟨(some 25), (some (24, true)), .move (.tmp 5), []⟩,
                 ⟨(some 26), (some (24, true)), .bin .eql (.tmp 25) (.const (.int .i64 0)), []⟩,
                 ⟨(some 27), (some (24, true)), .move (.tmp 26), []⟩,
                 ⟨(some 28), (some (27, false)), .move (.tmp 6), []⟩,
                 ⟨(some 29), (some (27, false)), .move (.tmp 1), []⟩,
                 ⟨(some 30), (some (27, false)), .bin .neq (.tmp 28) (.tmp 29), []⟩,
                 ⟨(some 31), (some (27, false)), .move (.tmp 30), []⟩,
                 ⟨(some 32), (some (31, true)), .move (.tmp 6), []⟩,
                 ⟨(some 33), (some (31, true)), .bin .lss (.tmp 32) (.const (.int .u8 48)), []⟩,
                 ⟨(some 34), (some (31, true)), .move (.tmp 33), []⟩,
                 ⟨(some 35), (some (34, false)), .move (.tmp 6), []⟩,
                 ⟨(some 36), (some (34, false)), .bin .gtr (.tmp 35) (.const (.int .u8 57)), []⟩,
                 ⟨(some 37), (some (31, true)), .pick (.tmp 34) (.const (.bool true)) (.tmp 36), []⟩,
                 ⟨(some 38), (some (27, false)), .pick (.tmp 31) (.tmp 37) (.const (.bool false)), []⟩,
                 ⟨(some 39), (some (24, true)), .pick (.tmp 27) (.const (.bool true)) (.tmp 38), []⟩,
                 ⟨(some 40), none, .pick (.tmp 24) (.tmp 39) (.const (.bool false)), []⟩])
               (.cond (.tmp 40)
                (.seq
                 (.region [⟨(some 4), none, .move (.const (.bool false)), []⟩])
                 .ret)
                .skip))))))
          (.region [⟨(some 41), none, .bin .add (.tmp 10) (.const (.int .i64 1)), []⟩,
            ⟨(some 10), none, .move (.tmp 41), []⟩])))))))
    (.seq
     (.region [⟨(some 42), none, .move (.tmp 0), []⟩,
       ⟨(some 43), none, .lenS (.tmp 42), []⟩,
       ⟨(some 44), none, .bin .gtr (.tmp 43) (.const (.int .i64 0)), []⟩,
       ⟨(some 45), none, .move (.tmp 44), []⟩,
       ⟨(some 46), (some (45, true)), .move (.tmp 0), []⟩,
       ⟨(some 47), (some (45, true)), .lenS (.tmp 46), []⟩,
       ⟨(some 48), (some (45, true)), .bin .leq (.tmp 47) (.const (.int .i64 32)), []⟩,
       ⟨(some 49), none, .pick (.tmp 45) (.tmp 48) (.const (.bool false)), []⟩,
       ⟨(some 4), none, .move (.tmp 49), []⟩])
     .ret)))
theorem is63 : IsFn Tryd.prog 63 50 c63 [.tmp 4] :=
  .of Tryd.func63 rfl Tryd.ntmps63 (by kernel_rfl) (by kernel_rfl)

-- stencil/stencilref3.Length (params 2)
def c64 : SCode :=
  (.seq
   (.region [⟨(some 4), none, .move (.const (.int .i64 0)), []⟩])
   (.seq
    (.region [⟨(some 6), none, .move (.tmp 0), []⟩,
      ⟨(some 7), none, .move (.tmp 1), []⟩,
      ⟨(some 8), none, .idxS (.tmp 6) (.tmp 7), []⟩,
      ⟨(some 5), none, .move (.tmp 8), []⟩])
    (.seq
     (.seq
      (.region [⟨(some 9), none, .move (.tmp 5), []⟩,
        ⟨(some 10), none, .bin .lss (.tmp 9) (.const (.int .u8 128)), []⟩])
      (.cond (.tmp 10)
       (.seq
        (.region [⟨(some 4), none, .move (.const (.int .i64 1)), []⟩])
        .ret)
       .skip))
     (.seq
      (.seq
       (.region [⟨(some 11), none, .move (.tmp 5), []⟩,
         ⟨(some 12), none, .bin .geq (.tmp 11) (.const (.int .u8 194)), []⟩,
         ⟨(some 13), none, .move (.tmp 12), []⟩,
         ⟨(some 14), (some (13, true)), .move (.tmp 5), []⟩,
         ⟨(some 15), (some (13, true)), .bin .lss (.tmp 14) (.const (.int .u8 224)), []⟩,
         ⟨(some 16), none, .pick (.tmp 13) (.tmp 15) (.const (.bool false)), []⟩,
         ⟨(some 17), none, .move (.tmp 16), []⟩,
         ⟨(some 18), (some (17, true)), .move (.tmp 0), []⟩,
         ⟨(some 19), (some (17, true)), .move (.tmp 1), []⟩,
         ⟨(some 20), (some (17, true)), .bin .add (.tmp 19) (.const (.int .i64 1)), []⟩,
         ⟨(some 21), (some (17, true)), .call 66 [(.tmp 18), (.tmp 20)], []⟩,
         ⟨(some 22), none, .pick (.tmp 17) (.tmp 21) (.const (.bool false)), []⟩])
       (.cond (.tmp 22)
        (.seq
         (.region [⟨(some 4), none, .move (.const (.int .i64 2)), []⟩])
         .ret)
        .skip))
      (.seq
       (.seq
        (.region [⟨(some 23), none, .move (.tmp 5), []⟩,
          ⟨(some 24), none, .bin .geq (.tmp 23) (.const (.int .u8 224)), []⟩,
          ⟨(some 25), none, .move (.tmp 24), []⟩,
          ⟨(some 26), (some (25, true)), .move (.tmp 5), []⟩,
          ⟨(some 27), (some (25, true)), .bin .lss (.tmp 26) (.const (.int .u8 240)), []⟩,
          ⟨(some 28), none, .pick (.tmp 25) (.tmp 27) (.const (.bool false)), []⟩,
          ⟨(some 29), none, .move (.tmp 28), []⟩,
          ⟨(some 30), (some (29, true)), .move (.tmp 0), []⟩,
          ⟨(some 31), (some (29, true)), .move (.tmp 1), []⟩,
          ⟨(some 32), (some (29, true)), .bin .add (.tmp 31) (.const (.int .i64 1)), []⟩,
          ⟨(some 33), (some (29, true)), .call 66 [(.tmp 30), (.tmp 32)], []⟩,
          ⟨(some 34), none, .pick (.tmp 29) (.tmp 33) (.const (.bool false)), []⟩,
          ⟨(some 35), none, .move (.tmp 34), []⟩,
          ⟨(some 36), (some (35, true)), .move (.tmp 0), []⟩,
          ⟨(some 37), (some (35, true)), .move (.tmp 1), []⟩,
          ⟨(some 38), (some (35, true)), .bin .add (.tmp 37) (.const (.int .i64 2)), []⟩,
          ⟨(some 39), (some (35, true)), .call 66 [(.tmp 36), (.tmp 38)], []⟩,
          ⟨(some 40), none, .pick (.tmp 35) (.tmp 39) (.const (.bool false)), []⟩])
        (.cond (.tmp 40)
         (.seq
          (.seq
           (.region [⟨(some 41), none, .move (.tmp 5), []⟩,
             ⟨(some 42), none, .bin .eql (.tmp 41) (.const (.int .u8 224)), []⟩,
             ⟨(some 43), none, .move (.tmp 42), []⟩,
             ⟨(some 44), (some (43, true)), .move (.tmp 0), []⟩,
             ⟨(some 45), (some (43, true)), .move (.tmp 1), []⟩,
             ⟨(some 46), (some (43, true)), .bin .add (.tmp 45) (.const (.int .i64 1)), []⟩,
             ⟨(some 47), (some (43, true)), .idxS (.tmp 44) (.tmp 46), []⟩,
             ⟨(some 48), (some (43, true)), .bin .lss (.tmp 47) (.const (.int .u8 160)), []⟩,
             ⟨(some 49), none, .pick (.tmp 43) (.tmp 48) (.const (.bool false)), []⟩,
             ⟨(some 50), none, .move (.tmp 49), []⟩,
             ⟨(some 51), (some (50, false)), .move (.tmp 5), []⟩,
             ⟨(some 52), (some (50, false)), .bin .eql (.tmp 51) (.const (.int .u8 237)), []⟩,
             ⟨(some 53), (some (50, false)), .move (.tmp 52), []⟩,
             ⟨(some 54), (some (53, true)), .move (.tmp 0), []⟩,
             ⟨(some 55), (some (53, true)), .move (.tmp 1), []⟩,
             ⟨(some 56), (some (53, true)), .bin .add (.tmp 55) (.const (.int .i64 1)), []⟩,
             ⟨(some 57), (some (53, true)), .idxS (.tmp 54) (.tmp 56), []⟩,
             ⟨(some 58), (some (53, true)), .bin .geq (.tmp 57) (.const (.int .u8 160)), []⟩,
             ⟨(some 59), (some (50, false)), .pick (.tmp 53) (.tmp 58) (.const (.bool false)), []⟩,
             ⟨(some 60), none, .pick (.tmp 50) (.const (.bool true)) (.tmp 59), []⟩])
           (.cond (.tmp 60)
            (.seq
             (.region [⟨(some 4), none, .move (.const (.int .i64 0)), []⟩])
             .ret)
            .skip))
          (.seq
           (.region [⟨(some 4), none, .move (.const (.int .i64 3)), []⟩])
           .ret))
         .skip))
       (.seq
        (.seq
         (.region (⟨(some 61), none, .move (.tmp 5), []⟩ ::
           ⟨(some 62), none, .bin .geq (.tmp 61) (.const (.int .u8 240)), []⟩ ::
           ⟨(some 63), none, .move (.tmp 62), []⟩ ::
           ⟨(some 64), (some (63, true)), .move (.tmp 5), []⟩ ::
           ⟨(some 65), (some (63, true)), .bin .lss (.tmp 64) (.const (.int .u8 245)), []⟩ ::
           ⟨(some 66), none, .pick (.tmp 63) (.tmp 65) (.const (.bool false)), []⟩ ::
           ⟨(some 67), none, .move (.tmp 66), []⟩ ::
           ⟨(some 68), (some (67, true)), .move (.tmp 0), []⟩ ::
           ⟨(some 69), (some (67, true)), .move (.tmp 1), []⟩ ::
           ⟨(some 70), (some (67, true)), .bin .add (.tmp 69) (.const (.int .i64 1)), []⟩ ::
           ⟨(some 71), (some (67, true)), .call 66 [(.tmp 68), (.tmp 70)], []⟩ ::
           ⟨(some 72), none, .pick (.tmp 67) (.tmp 71) (.const (.bool false)), []⟩ ::
           ⟨(some 73), none, .move (.tmp 72), []⟩ ::
           ⟨(some 74), (some (73, true)), .move (.tmp 0), []⟩ ::
           ⟨(some 75), (some (73, true)), .move (.tmp 1), []⟩ ::
           ⟨(some 76), (some (73, true)), .bin .add (.tmp 75) (.const (.int .i64 2)), []⟩ ::
           ⟨(some 77), (some (73, true)), .call 66 [(.tmp 74), (.tmp 76)], []⟩ ::
           ⟨(some 78), none, .pick (.tmp 73) (.tmp 77) (.const (.bool false)), []⟩ ::
           ⟨(some 79), none, .move (.tmp 78), []⟩ ::
           ⟨(some 80), (some (79, true)), .move (.tmp 0), []⟩ ::
           ⟨(some 81), (some (79, true)), .move (.tmp 1), []⟩ ::
           ⟨(some 82), (some (79, true)), .bin .add (.tmp 81) (.const (.int .i64 3)), []⟩ ::
           ⟨(some 83), (some (79, true)), .call 66 [(.tmp 80), (.tmp 82)], []⟩ ::
           ⟨(some 84), none, .pick (.tmp 79) (.tmp 83) (.const (.bool false)), []⟩ :: []))
         (.cond (.tmp 84)
          (.seq
           (.seq
            (.region [⟨(some 85), none, .move (.tmp 5), []⟩,
              ⟨(some 86), none, .bin .eql (.tmp 85) (.const (.int .u8 240)), []⟩,
              ⟨(some 87), none, .move (.tmp 86), []⟩,
              ⟨(some 88), (some (87, true)), .move (.tmp 0), []⟩,
              ⟨(some 89), (some (87, true)), .move (.tmp 1), []⟩,
              ⟨(some 90), (some (87, true)), .bin .add (.tmp 89) (.const (.int .i64 1)), []⟩,
              ⟨(some 91), (some (87, true)), .idxS (.tmp 88) (.tmp 90), []⟩,
              ⟨(some 92), (some (87, true)), .bin .lss (.tmp 91) (.const (.int .u8 144)), []⟩,
              ⟨(some 93), none, .pick (.tmp 87) (.tmp 92) (.const (.bool false)), []⟩,
              ⟨(some 94), none, .move (.tmp 93), []⟩,
              ⟨(some 95), (some (94, false)), .move (.tmp 5), []⟩,
              ⟨(some 96), (some (94, false)), .bin .eql (.tmp 95) (.const (.int .u8 244)), []⟩,
              ⟨(some 97), (some (94, false)), .move (.tmp 96), []⟩,
              ⟨(some 98), (some (97, true)), .move (.tmp 0), []⟩,
              ⟨(some 99), (some (97, true)), .move (.tmp 1), []⟩,
              ⟨(some 100), (some (97, true)), .bin .add (.tmp 99) (.const (.int .i64 1)), []⟩,
              ⟨(some 101), (some (97, true)), .idxS (.tmp 98) (.tmp 100), []⟩,
              ⟨(some 102), (some (97, true)), .bin .geq (.tmp 101) (.const (.int .u8 144)), []⟩,
              ⟨(some 103), (some (94, false)), .pick (.tmp 97) (.tmp 102) (.const (.bool false)), []⟩,
              ⟨(some 104), none, .pick (.tmp 94) (.const (.bool true)) (.tmp 103), []⟩])
            (.cond (.tmp 104)
             (.seq
              (.region [⟨(some 4), none, .move (.const (.int .i64 0)), []⟩])
              .ret)
             .skip))
           (.seq
            (.region [⟨(some 4), none, .move (.const (.int .i64 4)), []⟩])
            .ret))
          .skip))
        (.seq
         (.region [⟨(some 4), none, .move (.const (.int .i64 0)), []⟩])
         .ret)))))))
theorem is64 : IsFn Tryd.prog 64 105 c64 [.tmp 4] :=
  .of Tryd.func64 rfl Tryd.ntmps64 (by kernel_rfl) (by kernel_rfl)

-- unicode/utf8.DecodeRuneInString (params 1)
def c65 : SCode :=
  (.seq
   (.region [⟨(some 2), none, .move (.const (.int .i32 0)), []⟩,
     ⟨(some 3), none, .move (.const (.int .i64 0)), []⟩])
   (.seq
    (.seq
     (.region [⟨(some 4), none, .move (.tmp 0), []⟩,
       ⟨(some 5), none, .bin .neq (.tmp 4) (.const (.string ⟨#[]⟩)), []⟩,
       ⟨(some 6), none, .move (.tmp 5), []⟩,
       ⟨(some 7), (some (6, true)), .move (.tmp 0), []⟩,
       ⟨(some 8), (some (6, true)), .idxS (.tmp 7) (.const (.int .i64 0)), []⟩,
       ⟨(some 9), (some (6, true)), .bin .lss (.tmp 8) (.const (.int .u8 128)), []⟩,
       ⟨(some 10), none, .pick (.tmp 6) (.tmp 9) (.const (.bool false)), []⟩])
     (.cond (.tmp 10)
      (.seq
       (.region [⟨(some 11), none, .move (.tmp 0), []⟩,
         ⟨(some 12), none, .idxS (.tmp 11) (.const (.int .i64 0)), []⟩,
         ⟨(some 13), none, .toInt .i32 (.tmp 12), []⟩,
         ⟨(some 2), none, .move (.tmp 13), []⟩,
         ⟨(some 3), none, .move (.const (.int .i64 1)), []⟩])
       .ret)
      (.region [⟨(some 15), none, .move (.tmp 0), []⟩,
        ⟨(some 16), none, .call 67 [(.tmp 15)], []⟩,
        ⟨(some 14), none, .move (.tmp 16), []⟩,
        ⟨(some 17), none, .ext (.tmp 14) 0, []⟩,
        ⟨(some 18), none, .ext (.tmp 14) 1, []⟩,
        ⟨(some 2), none, .move (.tmp 17), []⟩,
        ⟨(some 3), none, .move (.tmp 18), []⟩])))
    .ret))
theorem is65 : IsFn Tryd.prog 65 19 c65 [.tmp 2, .tmp 3] :=
  .of Tryd.func65 rfl Tryd.ntmps65 (by kernel_rfl) (by kernel_rfl)

-- stencil/stencilref3.tail (params 2)
def c66 : SCode :=
  (.seq
   (.region [⟨(some 4), none, .move (.const (.bool false)), []⟩])
   (.seq
    (.region [⟨(some 5), none, .move (.tmp 1), []⟩,
      ⟨(some 6), none, .move (.tmp 0), []⟩,
      ⟨(some 7), none, .lenS (.tmp 6), []⟩,
      ⟨(some 8), none, .bin .lss (.tmp 5) (.tmp 7), []⟩,
      ⟨(some 9), none, .move (.tmp 8), []⟩,
      ⟨(some 10), (some (9, true)), .move (.tmp 0), []⟩,
      ⟨(some 11), (some (9, true)), .move (.tmp 1), []⟩,
      ⟨(some 12), (some (9, true)), .idxS (.tmp 10) (.tmp 11), []⟩,
      ⟨(some 13), (some (9, true)), .bin .geq (.tmp 12) (.const (.int .u8 128)), []⟩,
      ⟨(some 14), none, .pick (.tmp 9) (.tmp 13) (.const (.bool false)), []⟩,
      ⟨(some 15), none, .move (.tmp 14), []⟩,
      ⟨(some 16), (some (15, true)), .move (.tmp 0), []⟩,
      ⟨(some 17), (some (15, true)), .move (.tmp 1), []⟩,
      ⟨(some 18), (some (15, true)), .idxS (.tmp 16) (.tmp 17), []⟩,
      ⟨(some 19), (some (15, true)), .bin .lss (.tmp 18) (.const (.int .u8 192)), []⟩,
      ⟨(some 20), none, .pick (.tmp 15) (.tmp 19) (.const (.bool false)), []⟩,
      ⟨(some 4), none, .move (.tmp 20), []⟩])
    .ret))
theorem is66 : IsFn Tryd.prog 66 21 c66 [.tmp 4] :=
  .of Tryd.func66 rfl Tryd.ntmps66 (by kernel_rfl) (by kernel_rfl)

-- unicode/utf8.decodeRuneInStringSlow (params 1)
def c67 : SCode :=
  (.seq
   (.region [⟨(some 2), none, .move (.const (.int .i32 0)), []⟩,
     ⟨(some 3), none, .move (.const (.int .i64 0)), []⟩])
   (.seq
    (.region [⟨(some 13), none, .move (.tmp 0), []⟩,
      ⟨(some 14), none, .lenS (.tmp 13), []⟩,
      ⟨(some 4), none, .move (.tmp 14), []⟩])
    (.seq
     (.seq
      (.region [⟨(some 15), none, .move (.tmp 4), []⟩,
        ⟨(some 16), none, .bin .lss (.tmp 15) (.const (.int .i64 1)), []⟩])
      (.cond (.tmp 16)
       (.seq
        (.region [⟨(some 2), none, .move (.const (.int .i32 65533)), []⟩,
          ⟨(some 3), none, .move (.const (.int .i64 0)), []⟩])
        .ret)
       .skip))
     (.seq
      (.region [⟨(some 17), none, .move (.tmp 0), []⟩,
        ⟨(some 18), none, .idxS (.tmp 17) (.const (.int .i64 0)), []⟩,
        ⟨(some 5), none, .move (.tmp 18), []⟩])
      (.seq
       (.region [⟨(some 19), none, .move (.tmp 5), []⟩,
         ⟨(some 20), none, .idxR 256 1 (.global 0) (.tmp 19), []⟩,
         ⟨(some 21), none, .load false 1 (.tmp 20), []⟩,
         ⟨(some 6), none, .move (.tmp 21), []⟩])
       (.seq
        (.seq
         (.region [⟨(some 22), none, .move (.tmp 6), []⟩,
           ⟨(some 23), none, .bin .geq (.tmp 22) (.const (.int .u8 240)), []⟩])
         (.cond (.tmp 23)
          (.seq
           (.region [⟨(some 24), none, .move (.tmp 6), []⟩,
             ⟨(some 25), none, .toInt .i32 (.tmp 24), []⟩,
             ⟨(some 26), none, .bin .shl (.tmp 25) (.const (.int .u64 31)), []⟩,
             ⟨(some 27), none, .bin .shr (.tmp 26) (.const (.int .u64 31)), []⟩,
             ⟨(some 7), none, .move (.tmp 27), []⟩])
           (.seq
            (.region [⟨(some 28), none, .move (.tmp 0), []⟩,
              ⟨(some 29), none, .idxS (.tmp 28) (.const (.int .i64 0)), []⟩,
              ⟨(some 30), none, .toInt .i32 (.tmp 29), []⟩,
              ⟨(some 31), none, .move (.tmp 7), []⟩,
              ⟨(some 32), none, .bin .andNot (.tmp 30) (.tmp 31), []⟩,
              ⟨(some 33), none, .move (.tmp 7), []⟩,
              ⟨(some 34), none, .bin .and (.const (.int .i32 65533)) (.tmp 33), []⟩,
              ⟨(some 35), none, .bin .or (.tmp 32) (.tmp 34), []⟩,
              ⟨(some 2), none, .move (.tmp 35), []⟩,
              ⟨(some 3), none, .move (.const (.int .i64 1)), []⟩])
            .ret))
          .skip))
        (.seq
         (.region [⟨(some 36), none, .move (.tmp 6), []⟩,
           ⟨(some 37), none, .bin .and (.tmp 36) (.const (.int .u8 7)), []⟩,
           ⟨(some 38), none, .toInt .i64 (.tmp 37), []⟩,
           ⟨(some 8), none, .move (.tmp 38), []⟩])
         (.seq
          (.region [⟨(some 39), none, .move (.tmp 6), []⟩,
            ⟨(some 40), none, .bin .shr (.tmp 39) (.const (.int .u64 4)), []⟩,
            ⟨(some 41), none, .idxR 16 2 (.global 1) (.tmp 40), []⟩,
            ⟨(some 42), none, .load true 2 (.tmp 41), []⟩,
            ⟨(some 9), none, .alloc 89 [.v (.int .u8 0), .v (.int .u8 0)], []⟩,
            ⟨none, none, .store 2 (.tmp 9) (.tmp 42), []⟩])
          (.seq
           (.seq
            (.region [⟨(some 43), none, .move (.tmp 4), []⟩,
              ⟨(some 44), none, .move (.tmp 8), []⟩,
              ⟨(some 45), none, .bin .lss (.tmp 43) (.tmp 44), []⟩])
            (.cond (.tmp 45)
             (.seq
              (.region [⟨(some 2), none, .move (.const (.int .i32 65533)), []⟩,
                ⟨(some 3), none, .move (.const (.int .i64 1)), []⟩])
              .ret)
             .skip))
           (.seq
            (.region [⟨(some 46), none, .move (.tmp 0), []⟩,
              ⟨(some 47), none, .idxS (.tmp 46) (.const (.int .i64 1)), []⟩,
              ⟨(some 10), none, .move (.tmp 47), []⟩])
            (.seq
             (.seq
              (.region [⟨(some 48), none, .move (.tmp 10), []⟩,
                ⟨(some 49), none, .fld 0 (.tmp 9), []⟩,
                ⟨(some 50), none, .load false 1 (.tmp 49), []⟩,
                ⟨(some 51), none, .bin .lss (.tmp 48) (.tmp 50), []⟩,
                ⟨(some 52), none, .move (.tmp 51), []⟩,
                ⟨(some 53), (some (52, false)), .fld 1 (.tmp 9), []⟩,
                ⟨(some 54), (some (52, false)), .load false 1 (.tmp 53), []⟩,
                ⟨(some 55), (some (52, false)), .move (.tmp 10), []⟩,
                ⟨(some 56), (some (52, false)), .bin .lss (.tmp 54) (.tmp 55), []⟩,
                ⟨(some 57), none, .pick (.tmp 52) (.const (.bool true)) (.tmp 56), []⟩])
              (.cond (.tmp 57)
               (.seq
                (.region [⟨(some 2), none, .move (.const (.int .i32 65533)), []⟩,
                  ⟨(some 3), none, .move (.const (.int .i64 1)), []⟩])
                .ret)
               .skip))
             (.seq
              (.seq
               (.region [⟨(some 58), none, .move (.tmp 8), []⟩,
                 ⟨(some 59), none, .bin .leq (.tmp 58) (.const (.int .i64 2)), []⟩])
               (.cond (.tmp 59)
                (.seq
                 (.region [⟨(some 60), none, .move (.tmp 5), []⟩,
                   ⟨(some 61), none, .bin .and (.tmp 60) (.const (.int .u8 31)), []⟩,
                   ⟨(some 62), none, .toInt .i32 (.tmp 61), []⟩,
                   ⟨(some 63), none, .bin .shl (.tmp 62) (.const (.int .u64 6)), []⟩,
                   ⟨(some 64), none, .move (.tmp 10), []⟩,
                   ⟨(some 65), none, .bin .and (.tmp 64) (.const (.int .u8 63)), []⟩,
                   ⟨(some 66), none, .toInt .i32 (.tmp 65), []⟩,
                   ⟨(some 67), none, .bin .or (.tmp 63) (.tmp 66), []⟩,
                   ⟨(some 2), none, .move (.tmp 67), []⟩,
                   ⟨(some 3), none, .move (.const (.int .i64 2)), []⟩])
                 .ret)
                .skip))
              (.seq
               (.region [⟨(some 68), none, .move (.tmp 0), []⟩,
                 ⟨(some 69), none, .idxS (.tmp 68) (.const (.int .i64 2)), []⟩,
                 ⟨(some 11), none, .move (.tmp 69), []⟩])
               (.seq
                (.seq
                 (.region [⟨(some 70), none, .move (.tmp 11), []⟩,
                   ⟨(some 71), none, .bin .lss (.tmp 70) (.const (.int .u8 128)), []⟩,
                   ⟨(some 72), none, .move (.tmp 71), []⟩,
                   ⟨(some 73), (some (72, false)), .move (.tmp 11), []⟩,
                   ⟨(some 74), (some (72, false)), .bin .lss (.const (.int .u8 191)) (.tmp 73), []⟩,
                   ⟨(some 75), none, .pick (.tmp 72) (.const (.bool true)) (.tmp 74), []⟩])
                 (.cond (.tmp 75)
                  (.seq
                   (.region [⟨(some 2), none, .move (.const (.int .i32 65533)), []⟩,
                     ⟨(some 3), none, .move (.const (.int .i64 1)), []⟩])
                   .ret)
                  .skip))
                (.seq
                 (.seq
                  (.region [⟨(some 76), none, .move (.tmp 8), []⟩,
                    ⟨(some 77), none, .bin .leq (.tmp 76) (.const (.int .i64 3)), []⟩])
                  (.cond (.tmp 77)
                   (.seq
                    (.region [⟨(some 78), none, .move (.tmp 5), []⟩,
                      ⟨(some 79), none, .bin .and (.tmp 78) (.const (.int .u8 15)), []⟩,
                      ⟨(some 80), none, .toInt .i32 (.tmp 79), []⟩,
                      ⟨(some 81), none, .bin .shl (.tmp 80) (.const (.int .u64 12)), []⟩,
                      ⟨(some 82), none, .move (.tmp 10), []⟩,
                      ⟨(some 83), none, .bin .and (.tmp 82) (.const (.int .u8 63)), []⟩,
                      ⟨(some 84), none, .toInt .i32 (.tmp 83), []⟩,
                      ⟨(some 85), none, .bin .shl (.tmp 84) (.const (.int .u64 6)), []⟩,
                      ⟨(some 86), none, .bin .or (.tmp 81) (.tmp 85), []⟩,
                      ⟨(some 87), none, .move (.tmp 11), []⟩,
                      ⟨(some 88), none, .bin .and (.tmp 87) (.const (.int .u8 63)), []⟩,
                      ⟨(some 89), none, .toInt .i32 (.tmp 88), []⟩,
                      ⟨(some 90), none, .bin .or (.tmp 86) (.tmp 89), []⟩,
                      ⟨(some 2), none, .move (.tmp 90), []⟩,
                      ⟨(some 3), none, .move (.const (.int .i64 3)), []⟩])
                    .ret)
                   .skip))
                 (.seq
                  (.region [⟨(some 91), none, .move (.tmp 0), []⟩,
                    ⟨(some 92), none, .idxS (.tmp 91) (.const (.int .i64 3)), []⟩,
                    ⟨(some 12), none, .move (.tmp 92), []⟩])
                  (.seq
                   (.seq
                    (.region [⟨(some 93), none, .move (.tmp 12), []⟩,
                      ⟨(some 94), none, .bin .lss (.tmp 93) (.const (.int .u8 128)), []⟩,
                      ⟨(some 95), none, .move (.tmp 94), []⟩,
                      ⟨(some 96), (some (95, false)), .move (.tmp 12), []⟩,
                      ⟨(some 97), (some (95, false)), .bin .lss (.const (.int .u8 191)) (.tmp 96), []⟩,
                      ⟨(some 98), none, .pick (.tmp 95) (.const (.bool true)) (.tmp 97), []⟩])
                    (.cond (.tmp 98)
                     (.seq
                      (.region [⟨(some 2), none, .move (.const (.int .i32 65533)), []⟩,
                        ⟨(some 3), none, .move (.const (.int .i64 1)), []⟩])
                      .ret)
                     .skip))
                   (.seq
                    (.region [⟨(some 99), none, .move (.tmp 5), []⟩,
                      ⟨(some 100), none, .bin .and (.tmp 99) (.const (.int .u8 7)), []⟩,
                      ⟨(some 101), none, .toInt .i32 (.tmp 100), []⟩,
                      ⟨(some 102), none, .bin .shl (.tmp 101) (.const (.int .u64 18)), []⟩,
                      ⟨(some 103), none, .move (.tmp 10), []⟩,
                      ⟨(some 104), none, .bin .and (.tmp 103) (.const (.int .u8 63)), []⟩,
                      ⟨(some 105), none, .toInt .i32 (.tmp 104), []⟩,
                      ⟨(some 106), none, .bin .shl (.tmp 105) (.const (.int .u64 12)), []⟩,
                      ⟨(some 107), none, .bin .or (.tmp 102) (.tmp 106), []⟩,
                      ⟨(some 108), none, .move (.tmp 11), []⟩,
                      ⟨(some 109), none, .bin .and (.tmp 108) (.const (.int .u8 63)), []⟩,
                      ⟨(some 110), none, .toInt .i32 (.tmp 109), []⟩,
                      ⟨(some 111), none, .bin .shl (.tmp 110) (.const (.int .u64 6)), []⟩,
                      ⟨(some 112), none, .bin .or (.tmp 107) (.tmp 111), []⟩,
                      ⟨(some 113), none, .move (.tmp 12), []⟩,
                      ⟨(some 114), none, .bin .and (.tmp 113) (.const (.int .u8 63)), []⟩,
                      ⟨(some 115), none, .toInt .i32 (.tmp 114), []⟩,
                      ⟨(some 116), none, .bin .or (.tmp 112) (.tmp 115), []⟩,
                      ⟨(some 2), none, .move (.tmp 116), []⟩,
                      ⟨(some 3), none, .move (.const (.int .i64 4)), []⟩])
                    .ret))))))))))))))))))
theorem is67 : IsFn Tryd.prog 67 117 c67 [.tmp 2, .tmp 3] :=
  .of Tryd.func67 rfl Tryd.ntmps67 (by kernel_rfl) (by kernel_rfl)

end Go.Proofs.YtcbehloaegdkgaaDoor

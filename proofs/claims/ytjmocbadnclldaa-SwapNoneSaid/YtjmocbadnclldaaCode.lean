/- BY PROGRAM (wip/tool/print.lean): the abstract machine's code of the program's functions. -/
import Derived.Test.YtjmocbadnclldaaM19
import Derived.Test.YtjmocbadnclldaaProg
namespace Go.Proofs.Ytjmocbadnclldaa

/-- gosem.cut.init -/
def h2 : List Hint := []
def c2 : AFn := ⟨1, [],
  .region [⟨(some 0), .callv, [.lit (.func 1 [] [])], none⟩]⟩
theorem t2 : trFn Try.prog Try.f2 h2 = some c2 := by kernel_rfl

/-- pantry/pantrylaw09.SwapKeeps -/
def h3 : List Hint := [.mask [true, false, false, true, true, false, false, false, false, false, false, false, false, false, false, false, false, false, false, false, false, false, false, false, false, false, true, false, false, false, false, false, false, false, false, false, false, false, false, false, false, false, false, false, false, false, false, false, false, false, false, false, false, false, false, false, false, false, false, false, false, false, false, false, false, false, false, false, false, false, false, false, false, false, false, false, false, false, false, false, false, false, false, false, false, false, false, false, false, false, false, false, false, false, false, false, false, false, false, false, false, false, false, false, false, false, false, false, false, false, false, false, false, false, false], .mask [false, false, false, true, true, false, false, false, false, false, false, false, false, false, false, false, false, false, false, false, false, false, false, false, false, false, false, false, false, false, false, false, false, true, true, true, false, false, false, false, false, false, false, false, false, false, false, false, false, false, false, false, false, false, false, false, false, false, false, false, false, false, false, false, false, false, false, false, false, false, false, false, false, false, false, false, false, false, false, false, false, false, false, false, false, false, false, false, false, false, false, false, false, false, false, false, false, false, false, false, false, false, false, false, false, false, false, false, false, false, false, false, false, false, false], .ord [(0, []), (1, []), (2, []), (3, []), (4, [2]), (5, []), (6, [])] [[], [], [1], [], [3], [0, 2, 4, 1, 3], [5, 0, 2, 4, 1, 3]], .ord [(0, []), (1, []), (2, []), (3, [1]), (4, []), (5, [])] [[], [0], [], [2], [1, 0, 2, 3], [4, 3, 0, 1, 2]], .mask [false, false, false, true, true, false, false, false, false, false, false, false, false, false, false, false, false, false, false, false, false, false, false, false, false, false, false, false, false, false, false, false, false, false, false, false, false, false, false, false, false, false, false, false, false, false, false, false, false, false, false, false, false, false, false, false, false, false, false, false, false, false, false, false, false, false, false, false, false, false, false, false, false, false, true, false, false, false, false, false, false, false, false, false, false, false, false, false, false, false, false, false, false, false, false, false, false, false, false, false, false, false, false, false, false, false, false, false, false, false, false, false, false, false, false]]
def c3M0 : List Bool := [true, false, false, true, true, false, false, false, false, false, false, false, false, false, false, false, false, false, false, false, false, false, false, false, false, false, true, false, false, false, false, false, false, false, false, false, false, false, false, false, false, false, false, false, false, false, false, false, false, false, false, false, false, false, false, false, false, false, false, false, false, false, false, false, false, false, false, false, false, false, false, false, false, false, false, false, false, false, false, false, false, false, false, false, false, false, false, false, false, false, false, false, false, false, false, false, false, false, false, false, false, false, false, false, false, false, false, false, false, false, false, false, false, false, false]
def c3L0 : ACode :=
  .seq (.region [⟨(some 27), .bin .lss, [.tmp 26, .lit (.int .i64 4)], none⟩])
  (.seq (.cond (.tmp 27)
     (.skip)
     (.exit 0))
   (.seq (.block 1 (.seq (.region [⟨(some 28), .mv, [.tmp 26], none⟩,
         ⟨(some 5), .mv, [.tmp 28], none⟩])
      (.region [⟨(some 29), .mv, [.tmp 5], none⟩,
         ⟨(some 30), .callv, [.lit (.func 11 [] []), .lit .nilsl], none⟩,
         ⟨(some 31), .indexa 4 1, [.tmp 4, .tmp 29], none⟩,
         ⟨none, .store 1, [.tmp 31, .tmp 30], none⟩])))
    (.region [⟨(some 32), .bin .add, [.tmp 26, .lit (.int .i64 1)], none⟩,
       ⟨(some 26), .mv, [.tmp 32], none⟩])))
def c3M1 : List Bool := [false, false, false, true, true, false, false, false, false, false, false, false, false, false, false, false, false, false, false, false, false, false, false, false, false, false, false, false, false, false, false, false, false, true, true, true, false, false, false, false, false, false, false, false, false, false, false, false, false, false, false, false, false, false, false, false, false, false, false, false, false, false, false, false, false, false, false, false, false, false, false, false, false, false, false, false, false, false, false, false, false, false, false, false, false, false, false, false, false, false, false, false, false, false, false, false, false, false, false, false, false, false, false, false, false, false, false, false, false, false, false, false, false, false, false]
def c3L1 : ACode :=
  .seq (.region [⟨(some 36), .bin .lss, [.tmp 35, .tmp 34], none⟩])
  (.seq (.cond (.tmp 36)
     (.skip)
     (.exit 2))
   (.seq (.block 3 (.seq (.region [⟨(some 37), .indexs 4, [.tmp 33, .tmp 35], none⟩,
         ⟨(some 38), .loadn 4, [.tmp 37], none⟩,
         ⟨(some 7), .alloc 31 4 (.vals [(.int .i64 0), (.int .i64 0), .nilsl, (.bool false)]), [], none⟩,
         ⟨none, .store 4, [.tmp 7, .tmp 38], none⟩])
      (.seq (.region [⟨(some 39), .fieldAddr 0, [.tmp 7], none⟩,
          ⟨(some 40), .load1, [.tmp 39], none⟩])
       (.block 4 (.seq (.region [⟨(some 42), .bin .eql, [.tmp 40, .lit (.int .i64 0)], none⟩,
            ⟨(some 41), .mv, [.tmp 42], none⟩])
         (.cond (.tmp 41)
           (.seq (.draw (⟨0, ⟨(some 43), .mv, [.tmp 3], none⟩, []⟩ ::
               ⟨1, ⟨(some 44), .fieldAddr 1, [.tmp 7], none⟩, []⟩ ::
               ⟨2, ⟨(some 45), .load1, [.tmp 44], none⟩, []⟩ ::
               ⟨3, ⟨(some 46), .loadn 4, [.tmp 7], none⟩, []⟩ ::
               ⟨4, ⟨(some 47), .callv, [.lit (.func 13 [] []), .tmp 46], none⟩, [(2, ⟨(some 45), .load1, [.tmp 44], none⟩)]⟩ ::
               ⟨5, ⟨(some 48), .callv, [.lit (.func 12 [] []), .tmp 43, .tmp 45, .tmp 47], none⟩, []⟩ ::
               ⟨6, ⟨(some 49), .bin .eql, [.tmp 48, .lit (.int .i64 0)], none⟩, []⟩ ::
               []))
            (.cond (.tmp 49)
              (.seq (.seq (.region [⟨(some 50), .fieldAddr 1, [.tmp 7], none⟩,
                   ⟨(some 51), .load1, [.tmp 50], none⟩,
                   ⟨(some 52), .bin .lss, [.tmp 51, .lit (.int .i64 0)], none⟩,
                   ⟨(some 53), .mv, [.tmp 52], none⟩,
                   ⟨(some 54), .fieldAddr 1, [.tmp 7], (some (53, false))⟩,
                   ⟨(some 55), .load1, [.tmp 54], (some (53, false))⟩,
                   ⟨(some 56), .bin .geq, [.tmp 55, .lit (.int .i64 4)], (some (53, false))⟩,
                   ⟨(some 57), .pick, [.tmp 53, .lit (.bool true), .tmp 56], none⟩])
                (.cond (.tmp 57)
                  (.seq (.region [⟨(some 2), .mv, [.lit (.bool false)], none⟩])
                   (.ret))
                  (.skip)))
               (.draw (⟨0, ⟨(some 58), .fieldAddr 1, [.tmp 7], none⟩, []⟩ ::
                  ⟨1, ⟨(some 59), .load1, [.tmp 58], none⟩, []⟩ ::
                  ⟨2, ⟨(some 60), .loadn 4, [.tmp 7], none⟩, []⟩ ::
                  ⟨3, ⟨(some 61), .callv, [.lit (.func 13 [] []), .tmp 60], none⟩, [(1, ⟨(some 59), .load1, [.tmp 58], none⟩)]⟩ ::
                  ⟨4, ⟨(some 62), .indexa 4 1, [.tmp 4, .tmp 59], none⟩, []⟩ ::
                  ⟨5, ⟨none, .store 1, [.tmp 62, .tmp 61], none⟩, []⟩ ::
                  [])))
              (.skip)))
           (.seq (.region [⟨(some 64), .bin .eql, [.tmp 40, .lit (.int .i64 2)], none⟩,
               ⟨(some 63), .mv, [.tmp 64], none⟩])
            (.cond (.tmp 63)
              (.region [⟨(some 65), .mv, [.tmp 3], none⟩,
                 ⟨(some 66), .fieldAddr 3, [.tmp 7], none⟩,
                 ⟨(some 67), .load1, [.tmp 66], none⟩,
                 ⟨(some 68), .fieldAddr 1, [.tmp 7], none⟩,
                 ⟨(some 69), .load1, [.tmp 68], none⟩,
                 ⟨(some 70), .callv, [.lit (.func 14 [] []), .tmp 65, .tmp 67, .tmp 69], none⟩])
              (.skip)))))))))
    (.region [⟨(some 71), .bin .add, [.tmp 35, .lit (.int .i64 1)], none⟩,
       ⟨(some 35), .mv, [.tmp 71], none⟩])))
def c3M2 : List Bool := [false, false, false, true, true, false, false, false, false, false, false, false, false, false, false, false, false, false, false, false, false, false, false, false, false, false, false, false, false, false, false, false, false, false, false, false, false, false, false, false, false, false, false, false, false, false, false, false, false, false, false, false, false, false, false, false, false, false, false, false, false, false, false, false, false, false, false, false, false, false, false, false, false, false, true, false, false, false, false, false, false, false, false, false, false, false, false, false, false, false, false, false, false, false, false, false, false, false, false, false, false, false, false, false, false, false, false, false, false, false, false, false, false, false, false]
def c3L2 : ACode :=
  .seq (.region [⟨(some 75), .bin .lss, [.tmp 74, .lit (.int .i64 4)], none⟩])
  (.seq (.cond (.tmp 75)
     (.skip)
     (.exit 5))
   (.seq (.block 6 (.seq (.region [⟨(some 76), .mv, [.tmp 74], none⟩,
         ⟨(some 8), .mv, [.tmp 76], none⟩])
      (.seq (.region [⟨(some 78), .mv, [.tmp 3], none⟩,
          ⟨(some 79), .mv, [.tmp 8], none⟩,
          ⟨(some 80), .callv, [.lit (.func 15 [] []), .tmp 78, .tmp 79], none⟩,
          ⟨(some 77), .mv, [.tmp 80], none⟩,
          ⟨(some 81), .extract 0, [.tmp 77], none⟩,
          ⟨(some 82), .extract 1, [.tmp 77], none⟩,
          ⟨(some 9), .mv, [.tmp 81], none⟩,
          ⟨(some 10), .mv, [.tmp 82], none⟩])
       (.seq (.seq (.region [⟨(some 83), .mv, [.tmp 10], none⟩,
            ⟨(some 84), .bin .neq, [.tmp 83, .lit (.int .i64 0)], none⟩,
            ⟨(some 85), .mv, [.tmp 84], none⟩,
            ⟨(some 86), .mv, [.tmp 9], (some (85, false))⟩,
            ⟨(some 87), .mv, [.tmp 8], (some (85, false))⟩,
            ⟨(some 88), .indexa 4 1, [.tmp 4, .tmp 87], (some (85, false))⟩,
            ⟨(some 89), .load1, [.tmp 88], (some (85, false))⟩,
            ⟨(some 90), .callv, [.lit (.func 16 [] []), .tmp 86, .tmp 89], (some (85, false))⟩,
            ⟨(some 91), .un .not, [.tmp 90], (some (85, false))⟩,
            ⟨(some 92), .pick, [.tmp 85, .lit (.bool true), .tmp 91], none⟩])
         (.cond (.tmp 92)
           (.seq (.region [⟨(some 2), .mv, [.lit (.bool false)], none⟩])
            (.ret))
           (.skip)))
        (.seq (.seq (.region [⟨(some 93), .mv, [.tmp 9], none⟩,
             ⟨(some 94), .lens, [.tmp 93], none⟩,
             ⟨(some 95), .bin .eql, [.tmp 94, .lit (.int .i64 0)], none⟩])
          (.cond (.tmp 95)
            (.seq (.region [⟨(some 2), .mv, [.lit (.bool false)], none⟩])
             (.ret))
            (.skip)))
         (.seq (.region [⟨(some 96), .mv, [.tmp 9], none⟩,
             ⟨(some 97), .indexs 1, [.tmp 96, .lit (.int .i64 0)], none⟩,
             ⟨(some 98), .load1, [.tmp 97], none⟩,
             ⟨(some 99), .bin .add, [.tmp 98, .lit (.int .u8 1)], none⟩,
             ⟨(some 100), .indexs 1, [.tmp 96, .lit (.int .i64 0)], none⟩,
             ⟨none, .store 1, [.tmp 100, .tmp 99], none⟩])
          (.seq (.region [⟨(some 102), .mv, [.tmp 3], none⟩,
              ⟨(some 103), .mv, [.tmp 8], none⟩,
              ⟨(some 104), .callv, [.lit (.func 15 [] []), .tmp 102, .tmp 103], none⟩,
              ⟨(some 101), .mv, [.tmp 104], none⟩,
              ⟨(some 105), .extract 0, [.tmp 101], none⟩,
              ⟨(some 106), .extract 1, [.tmp 101], none⟩,
              ⟨(some 11), .mv, [.tmp 105], none⟩,
              ⟨(some 12), .mv, [.tmp 106], none⟩])
           (.seq (.region [⟨(some 107), .mv, [.tmp 11], none⟩,
               ⟨(some 108), .mv, [.tmp 8], none⟩,
               ⟨(some 109), .indexa 4 1, [.tmp 4, .tmp 108], none⟩,
               ⟨(some 110), .load1, [.tmp 109], none⟩,
               ⟨(some 111), .callv, [.lit (.func 16 [] []), .tmp 107, .tmp 110], none⟩,
               ⟨(some 112), .un .not, [.tmp 111], none⟩])
            (.cond (.tmp 112)
              (.seq (.region [⟨(some 2), .mv, [.lit (.bool false)], none⟩])
               (.ret))
              (.skip))))))))))
    (.region [⟨(some 113), .bin .add, [.tmp 74, .lit (.int .i64 1)], none⟩,
       ⟨(some 74), .mv, [.tmp 113], none⟩])))
def c3 : AFn := ⟨115, [.tmp 2],
  .seq (.region [⟨(some 2), .mv, [.lit (.bool false)], none⟩])
  (.seq (.region [⟨(some 13), .callv, [.lit (.func 8 [] []), .lit (.int .i64 4)], none⟩,
      ⟨(some 3), .mv, [.tmp 13], none⟩])
   (.seq (.seq (.region [⟨(some 14), .mv, [.tmp 3], none⟩,
        ⟨(some 15), .eqv false .ptr, [.tmp 14, .lit .nilptr], none⟩,
        ⟨(some 16), .mv, [.tmp 15], none⟩,
        ⟨(some 17), .mv, [.tmp 0], (some (16, false))⟩,
        ⟨(some 18), .callv, [.lit (.func 9 [] []), .tmp 17], (some (16, false))⟩,
        ⟨(some 19), .un .not, [.tmp 18], (some (16, false))⟩,
        ⟨(some 20), .pick, [.tmp 16, .lit (.bool true), .tmp 19], none⟩])
     (.cond (.tmp 20)
       (.seq (.region [⟨(some 21), .mv, [.tmp 3], none⟩,
           ⟨(some 22), .eqv true .ptr, [.tmp 21, .lit .nilptr], none⟩,
           ⟨(some 23), .mv, [.tmp 22], none⟩,
           ⟨(some 24), .callv, [.lit (.func 10 [] [])], (some (23, true))⟩,
           ⟨(some 25), .pick, [.tmp 23, .tmp 24, .lit (.bool false)], none⟩,
           ⟨(some 2), .mv, [.tmp 25], none⟩])
        (.ret))
       (.skip)))
    (.seq (.region [⟨(some 4), .alloc 28 4 (.vals [.nilsl, .nilsl, .nilsl, .nilsl]), [], none⟩])
     (.seq (.seq (.region [⟨(some 26), .mv, [.lit (.int .i64 0)], none⟩])
       (.block 0 (.loop c3M0 c3L0)))
      (.seq (.seq (.region [⟨(some 33), .mv, [.tmp 0], none⟩,
           ⟨(some 34), .lens, [.tmp 33], none⟩,
           ⟨(some 35), .mv, [.lit (.int .i64 0)], none⟩])
        (.block 2 (.loop c3M1 c3L1)))
       (.seq (.region [⟨(some 72), .mv, [.tmp 3], none⟩,
           ⟨(some 73), .callv, [.lit (.func 14 [] []), .tmp 72, .lit (.bool false), .lit (.int .i64 0)], none⟩])
        (.seq (.seq (.region [⟨(some 74), .mv, [.lit (.int .i64 0)], none⟩])
          (.block 5 (.loop c3M2 c3L2)))
         (.seq (.region [⟨(some 114), .callv, [.lit (.func 10 [] [])], none⟩,
             ⟨(some 2), .mv, [.tmp 114], none⟩])
          (.ret)))))))))⟩
theorem t3 : trFn Try.prog Try.f3 h3 = some c3 := by kernel_rfl

/-- pantry/pantrylaw09.SwapPlans -/
def h4 : List Hint := [.mask [false, false, false, false, false, false, false, true, true, true, true, true, false, false, false, false, false, false, false, false, false, false, false, false, false, false, false, false, false, false, false, false, false, false, false, false, false, false, false, false, false, false, false, false, false, false, false, false, false, false, false, false, false, false, false, false, false, false, false, false, false, false, false, false, false, false, false, false, false, false, false, false, false, false, false, false, false, false, false, false, false, false, false, false, false, false, false, false, false, false, false, false, false, false, false, false, false, false, false, false, false, false]]
def c4M0 : List Bool := [false, false, false, false, false, false, false, true, true, true, true, true, false, false, false, false, false, false, false, false, false, false, false, false, false, false, false, false, false, false, false, false, false, false, false, false, false, false, false, false, false, false, false, false, false, false, false, false, false, false, false, false, false, false, false, false, false, false, false, false, false, false, false, false, false, false, false, false, false, false, false, false, false, false, false, false, false, false, false, false, false, false, false, false, false, false, false, false, false, false, false, false, false, false, false, false, false, false, false, false, false, false]
def c4L0 : ACode :=
  .seq (.seq (.region [⟨(some 37), .mv, [.tmp 11], none⟩,
      ⟨(some 38), .mv, [.tmp 10], none⟩,
      ⟨(some 39), .bin .leq, [.tmp 37, .tmp 38], none⟩])
   (.cond (.tmp 39)
     (.skip)
     (.exit 0)))
  (.seq (.block 1 (.seq (.region [⟨(some 42), .mv, [.tmp 7], none⟩,
        ⟨(some 43), .callv, [.lit (.func 11 [] []), .lit .nilsl], none⟩,
        ⟨(some 44), .callv, [.lit (.func 12 [] []), .tmp 42, .lit (.int .i64 0), .tmp 43], none⟩,
        ⟨(some 12), .mv, [.tmp 44], none⟩])
     (.seq (.region [⟨(some 46), .mv, [.tmp 7], none⟩,
         ⟨(some 47), .callv, [.lit (.func 15 [] []), .tmp 46, .lit (.int .i64 0)], none⟩,
         ⟨(some 45), .mv, [.tmp 47], none⟩,
         ⟨(some 48), .extract 0, [.tmp 45], none⟩,
         ⟨(some 49), .extract 1, [.tmp 45], none⟩,
         ⟨(some 13), .mv, [.tmp 48], none⟩,
         ⟨(some 14), .mv, [.tmp 49], none⟩])
      (.seq (.region (⟨(some 50), .mv, [.tmp 12], none⟩ ::
          ⟨(some 51), .bin .eql, [.tmp 50, .lit (.int .i64 6)], none⟩ ::
          ⟨(some 52), .mv, [.tmp 11], none⟩ ::
          ⟨(some 53), .mv, [.tmp 8], none⟩ ::
          ⟨(some 54), .bin .eql, [.tmp 52, .tmp 53], none⟩ ::
          ⟨(some 55), .eqv true (.scal .bool), [.tmp 51, .tmp 54], none⟩ ::
          ⟨(some 56), .mv, [.tmp 55], none⟩ ::
          ⟨(some 57), .mv, [.tmp 14], (some (56, false))⟩ ::
          ⟨(some 58), .bin .eql, [.tmp 57, .lit (.int .i64 6)], (some (56, false))⟩ ::
          ⟨(some 59), .mv, [.tmp 11], (some (56, false))⟩ ::
          ⟨(some 60), .mv, [.tmp 9], (some (56, false))⟩ ::
          ⟨(some 61), .bin .eql, [.tmp 59, .tmp 60], (some (56, false))⟩ ::
          ⟨(some 62), .eqv true (.scal .bool), [.tmp 58, .tmp 61], (some (56, false))⟩ ::
          ⟨(some 63), .pick, [.tmp 56, .lit (.bool true), .tmp 62], none⟩ ::
          ⟨(some 64), .mv, [.tmp 63], none⟩ ::
          ⟨(some 65), .mv, [.tmp 12], (some (64, false))⟩ ::
          ⟨(some 66), .bin .neq, [.tmp 65, .lit (.int .i64 0)], (some (64, false))⟩ ::
          ⟨(some 67), .mv, [.tmp 66], (some (64, false))⟩ ::
          ⟨(some 68), .mv, [.tmp 12], (some (67, true))⟩ ::
          ⟨(some 69), .bin .neq, [.tmp 68, .lit (.int .i64 6)], (some (67, true))⟩ ::
          ⟨(some 70), .pick, [.tmp 67, .tmp 69, .lit (.bool false)], (some (64, false))⟩ ::
          ⟨(some 71), .pick, [.tmp 64, .lit (.bool true), .tmp 70], none⟩ ::
          ⟨(some 72), .mv, [.tmp 71], none⟩ ::
          ⟨(some 73), .mv, [.tmp 14], (some (72, false))⟩ ::
          ⟨(some 74), .bin .neq, [.tmp 73, .lit (.int .i64 0)], (some (72, false))⟩ ::
          ⟨(some 75), .mv, [.tmp 74], (some (72, false))⟩ ::
          ⟨(some 76), .mv, [.tmp 14], (some (75, true))⟩ ::
          ⟨(some 77), .bin .neq, [.tmp 76, .lit (.int .i64 6)], (some (75, true))⟩ ::
          ⟨(some 78), .pick, [.tmp 75, .tmp 77, .lit (.bool false)], (some (72, false))⟩ ::
          ⟨(some 79), .pick, [.tmp 72, .lit (.bool true), .tmp 78], none⟩ ::
          []))
       (.cond (.tmp 79)
         (.seq (.region [⟨(some 6), .mv, [.lit (.bool false)], none⟩])
          (.ret))
         (.skip))))))
   (.region [⟨(some 40), .mv, [.tmp 11], none⟩,
      ⟨(some 41), .bin .add, [.tmp 40, .lit (.int .i64 1)], none⟩,
      ⟨(some 11), .mv, [.tmp 41], none⟩]))
def c4 : AFn := ⟨102, [.tmp 6],
  .seq (.region [⟨(some 6), .mv, [.lit (.bool false)], none⟩])
  (.seq (.region [⟨(some 17), .callv, [.lit (.func 8 [] []), .lit (.int .i64 1)], none⟩,
      ⟨(some 7), .mv, [.tmp 17], none⟩])
   (.seq (.region [⟨(some 18), .mv, [.tmp 0], none⟩,
       ⟨(some 19), .bin .rem, [.tmp 18, .lit (.int .u64 20)], none⟩,
       ⟨(some 20), .conv .i64, [.tmp 19], none⟩,
       ⟨(some 21), .mv, [.tmp 1], none⟩,
       ⟨(some 22), .bin .rem, [.tmp 21, .lit (.int .u64 20)], none⟩,
       ⟨(some 23), .conv .i64, [.tmp 22], none⟩,
       ⟨(some 24), .mv, [.tmp 2], none⟩,
       ⟨(some 25), .bin .rem, [.tmp 24, .lit (.int .u64 30)], none⟩,
       ⟨(some 26), .conv .i64, [.tmp 25], none⟩,
       ⟨(some 8), .mv, [.tmp 20], none⟩,
       ⟨(some 9), .mv, [.tmp 23], none⟩,
       ⟨(some 10), .mv, [.tmp 26], none⟩])
    (.seq (.seq (.region [⟨(some 27), .mv, [.tmp 7], none⟩,
         ⟨(some 28), .mv, [.tmp 8], none⟩,
         ⟨(some 29), .callv, [.lit (.func 14 [] []), .tmp 27, .lit (.bool true), .tmp 28], none⟩,
         ⟨(some 30), .bin .neq, [.tmp 29, .lit (.int .i64 0)], none⟩,
         ⟨(some 31), .mv, [.tmp 30], none⟩,
         ⟨(some 32), .mv, [.tmp 7], (some (31, false))⟩,
         ⟨(some 33), .mv, [.tmp 9], (some (31, false))⟩,
         ⟨(some 34), .callv, [.lit (.func 14 [] []), .tmp 32, .lit (.bool false), .tmp 33], (some (31, false))⟩,
         ⟨(some 35), .bin .neq, [.tmp 34, .lit (.int .i64 0)], (some (31, false))⟩,
         ⟨(some 36), .pick, [.tmp 31, .lit (.bool true), .tmp 35], none⟩])
      (.cond (.tmp 36)
        (.seq (.region [⟨(some 6), .mv, [.lit (.bool false)], none⟩])
         (.ret))
        (.skip)))
     (.seq (.seq (.region [⟨(some 11), .mv, [.lit (.int .i64 1)], none⟩])
       (.block 0 (.loop c4M0 c4L0)))
      (.seq (.region [⟨(some 81), .mv, [.tmp 7], none⟩,
          ⟨(some 82), .callv, [.lit (.func 17 [] []), .tmp 81], none⟩,
          ⟨(some 80), .mv, [.tmp 82], none⟩,
          ⟨(some 83), .extract 0, [.tmp 80], none⟩,
          ⟨(some 84), .extract 1, [.tmp 80], none⟩,
          ⟨(some 15), .mv, [.tmp 83], none⟩,
          ⟨(some 16), .mv, [.tmp 84], none⟩])
       (.seq (.region [⟨(some 85), .mv, [.tmp 15], none⟩,
           ⟨(some 86), .mv, [.tmp 10], none⟩,
           ⟨(some 87), .bin .eql, [.tmp 85, .tmp 86], none⟩,
           ⟨(some 88), .mv, [.tmp 87], none⟩,
           ⟨(some 89), .mv, [.tmp 16], (some (88, true))⟩,
           ⟨(some 90), .mv, [.tmp 10], (some (88, true))⟩,
           ⟨(some 91), .bin .eql, [.tmp 89, .tmp 90], (some (88, true))⟩,
           ⟨(some 92), .pick, [.tmp 88, .tmp 91, .lit (.bool false)], none⟩,
           ⟨(some 93), .mv, [.tmp 92], none⟩,
           ⟨(some 94), .mv, [.tmp 7], (some (93, true))⟩,
           ⟨(some 95), .callv, [.lit (.func 11 [] []), .lit .nilsl], (some (93, true))⟩,
           ⟨(some 96), .callv, [.lit (.func 12 [] []), .tmp 94, .lit (.int .i64 1), .tmp 95], (some (93, true))⟩,
           ⟨(some 97), .bin .eql, [.tmp 96, .lit (.int .i64 2)], (some (93, true))⟩,
           ⟨(some 98), .pick, [.tmp 93, .tmp 97, .lit (.bool false)], none⟩,
           ⟨(some 99), .mv, [.tmp 98], none⟩,
           ⟨(some 100), .callv, [.lit (.func 10 [] [])], (some (99, true))⟩,
           ⟨(some 101), .pick, [.tmp 99, .tmp 100, .lit (.bool false)], none⟩,
           ⟨(some 6), .mv, [.tmp 101], none⟩])
        (.ret)))))))⟩
theorem t4 : trFn Try.prog Try.f4 h4 = some c4 := by kernel_rfl

/-- pantry/pantrylaw09.SwapApart -/
def h5 : List Hint := [.ord [(0, []), (1, []), (2, []), (3, []), (4, []), (5, []), (6, []), (7, []), (8, []), (9, [])] [[], [0], [1, 0], [2, 1, 0], [], [4], [5, 4], [6, 5, 4], [3, 0, 1, 2], [7, 8, 0, 1, 2, 3, 4, 5, 6]], .mask [true, true, false, false, false, false, false, true, true, true, true, false, false, false, false, false, false, false, false, false, false, false, false, false, false, false, false, false, false, false, false, false, false, false, false, false, false, false, false, false, false, false, false, false, false, false, false, false, false, false, false, false, false, false, false, false, false, false, false, false, false, false, false, false, false, false, false, false, false, false, false, false, false, false, false, false, false, false, false, false, false, false, false, false, false, false, false, false, false, false, false, false, false, false, false, false, false]]
def c5M0 : List Bool := [true, true, false, false, false, false, false, true, true, true, true, false, false, false, false, false, false, false, false, false, false, false, false, false, false, false, false, false, false, false, false, false, false, false, false, false, false, false, false, false, false, false, false, false, false, false, false, false, false, false, false, false, false, false, false, false, false, false, false, false, false, false, false, false, false, false, false, false, false, false, false, false, false, false, false, false, false, false, false, false, false, false, false, false, false, false, false, false, false, false, false, false, false, false, false, false, false]
def c5L0 : ACode :=
  .seq (.seq (.region [⟨(some 53), .mv, [.tmp 10], none⟩,
      ⟨(some 54), .bin .lss, [.tmp 53, .lit (.int .i64 8)], none⟩])
   (.cond (.tmp 54)
     (.skip)
     (.exit 0)))
  (.seq (.block 1 (.seq (.region [⟨(some 57), .callv, [.lit (.func 11 [] []), .lit .nilsl], none⟩,
        ⟨(some 11), .mv, [.tmp 57], none⟩])
     (.seq (.seq (.region [⟨(some 58), .mv, [.tmp 10], none⟩,
          ⟨(some 59), .mv, [.tmp 8], none⟩,
          ⟨(some 60), .bin .eql, [.tmp 58, .tmp 59], none⟩])
       (.cond (.tmp 60)
         (.region [⟨(some 61), .mv, [.tmp 0], none⟩,
            ⟨(some 62), .callv, [.lit (.func 11 [] []), .tmp 61], none⟩,
            ⟨(some 11), .mv, [.tmp 62], none⟩])
         (.skip)))
      (.seq (.seq (.region [⟨(some 63), .mv, [.tmp 10], none⟩,
           ⟨(some 64), .mv, [.tmp 9], none⟩,
           ⟨(some 65), .bin .eql, [.tmp 63, .tmp 64], none⟩])
        (.cond (.tmp 65)
          (.region [⟨(some 66), .mv, [.tmp 1], none⟩,
             ⟨(some 67), .callv, [.lit (.func 11 [] []), .tmp 66], none⟩,
             ⟨(some 11), .mv, [.tmp 67], none⟩])
          (.skip)))
       (.seq (.region [⟨(some 68), .mv, [.tmp 7], none⟩,
           ⟨(some 69), .mv, [.tmp 10], none⟩,
           ⟨(some 70), .callv, [.lit (.func 18 [] []), .tmp 68, .tmp 69], none⟩,
           ⟨(some 71), .mv, [.tmp 11], none⟩,
           ⟨(some 72), .callv, [.lit (.func 16 [] []), .tmp 70, .tmp 71], none⟩,
           ⟨(some 73), .un .not, [.tmp 72], none⟩])
        (.cond (.tmp 73)
          (.seq (.region [⟨(some 6), .mv, [.lit (.bool false)], none⟩])
           (.ret))
          (.skip)))))))
   (.region [⟨(some 55), .mv, [.tmp 10], none⟩,
      ⟨(some 56), .bin .add, [.tmp 55, .lit (.int .i64 1)], none⟩,
      ⟨(some 10), .mv, [.tmp 56], none⟩]))
def c5 : AFn := ⟨97, [.tmp 6],
  .seq (.region [⟨(some 5), .box 43 2, [.tmp 2], none⟩,
     ⟨(some 6), .mv, [.lit (.bool false)], none⟩])
  (.seq (.seq (.region [⟨(some 16), .mv, [.tmp 0], none⟩,
       ⟨(some 17), .lens, [.tmp 16], none⟩,
       ⟨(some 18), .bin .gtr, [.tmp 17, .lit (.int .i64 4096)], none⟩,
       ⟨(some 19), .mv, [.tmp 18], none⟩,
       ⟨(some 20), .mv, [.tmp 1], (some (19, false))⟩,
       ⟨(some 21), .lens, [.tmp 20], (some (19, false))⟩,
       ⟨(some 22), .bin .gtr, [.tmp 21, .lit (.int .i64 4096)], (some (19, false))⟩,
       ⟨(some 23), .pick, [.tmp 19, .lit (.bool true), .tmp 22], none⟩])
    (.cond (.tmp 23)
      (.seq (.region [⟨(some 24), .callv, [.lit (.func 10 [] [])], none⟩,
          ⟨(some 6), .mv, [.tmp 24], none⟩])
       (.ret))
      (.skip)))
   (.seq (.region [⟨(some 25), .callv, [.lit (.func 8 [] []), .lit (.int .i64 8)], none⟩,
       ⟨(some 7), .mv, [.tmp 25], none⟩])
    (.seq (.draw (⟨0, ⟨(some 26), .indexa 2 1, [.tmp 5, .lit (.int .i64 0)], none⟩, []⟩ ::
        ⟨1, ⟨(some 27), .load1, [.tmp 26], none⟩, []⟩ ::
        ⟨2, ⟨(some 28), .bin .rem, [.tmp 27, .lit (.int .u64 8)], none⟩, []⟩ ::
        ⟨3, ⟨(some 29), .conv .i64, [.tmp 28], none⟩, []⟩ ::
        ⟨4, ⟨(some 30), .indexa 2 1, [.tmp 5, .lit (.int .i64 1)], none⟩, []⟩ ::
        ⟨5, ⟨(some 31), .load1, [.tmp 30], none⟩, []⟩ ::
        ⟨6, ⟨(some 32), .bin .rem, [.tmp 31, .lit (.int .u64 8)], none⟩, []⟩ ::
        ⟨7, ⟨(some 33), .conv .i64, [.tmp 32], none⟩, []⟩ ::
        ⟨8, ⟨(some 8), .mv, [.tmp 29], none⟩, []⟩ ::
        ⟨9, ⟨(some 9), .mv, [.tmp 33], none⟩, []⟩ ::
        []))
     (.seq (.seq (.region [⟨(some 34), .mv, [.tmp 7], none⟩,
          ⟨(some 35), .mv, [.tmp 8], none⟩,
          ⟨(some 36), .mv, [.tmp 0], none⟩,
          ⟨(some 37), .callv, [.lit (.func 11 [] []), .tmp 36], none⟩,
          ⟨(some 38), .callv, [.lit (.func 12 [] []), .tmp 34, .tmp 35, .tmp 37], none⟩,
          ⟨(some 39), .bin .neq, [.tmp 38, .lit (.int .i64 0)], none⟩,
          ⟨(some 40), .mv, [.tmp 39], none⟩,
          ⟨(some 41), .mv, [.tmp 7], (some (40, false))⟩,
          ⟨(some 42), .mv, [.tmp 9], (some (40, false))⟩,
          ⟨(some 43), .mv, [.tmp 1], (some (40, false))⟩,
          ⟨(some 44), .callv, [.lit (.func 11 [] []), .tmp 43], (some (40, false))⟩,
          ⟨(some 45), .callv, [.lit (.func 12 [] []), .tmp 41, .tmp 42, .tmp 44], (some (40, false))⟩,
          ⟨(some 46), .bin .neq, [.tmp 45, .lit (.int .i64 0)], (some (40, false))⟩,
          ⟨(some 47), .pick, [.tmp 40, .lit (.bool true), .tmp 46], none⟩,
          ⟨(some 48), .mv, [.tmp 47], none⟩,
          ⟨(some 49), .mv, [.tmp 7], (some (48, false))⟩,
          ⟨(some 50), .callv, [.lit (.func 14 [] []), .tmp 49, .lit (.bool false), .lit (.int .i64 1)], (some (48, false))⟩,
          ⟨(some 51), .bin .neq, [.tmp 50, .lit (.int .i64 0)], (some (48, false))⟩,
          ⟨(some 52), .pick, [.tmp 48, .lit (.bool true), .tmp 51], none⟩])
       (.cond (.tmp 52)
         (.seq (.region [⟨(some 6), .mv, [.lit (.bool false)], none⟩])
          (.ret))
         (.skip)))
      (.seq (.seq (.region [⟨(some 10), .mv, [.lit (.int .i64 0)], none⟩])
        (.block 0 (.loop c5M0 c5L0)))
       (.seq (.region [⟨(some 75), .mv, [.tmp 7], none⟩,
           ⟨(some 76), .callv, [.lit (.func 15 [] []), .tmp 75, .lit (.int .i64 0)], none⟩,
           ⟨(some 74), .mv, [.tmp 76], none⟩,
           ⟨(some 77), .extract 0, [.tmp 74], none⟩,
           ⟨(some 78), .extract 1, [.tmp 74], none⟩,
           ⟨(some 12), .mv, [.tmp 77], none⟩,
           ⟨(some 13), .mv, [.tmp 78], none⟩])
        (.seq (.region [⟨(some 80), .mv, [.tmp 7], none⟩,
            ⟨(some 81), .callv, [.lit (.func 17 [] []), .tmp 80], none⟩,
            ⟨(some 79), .mv, [.tmp 81], none⟩,
            ⟨(some 82), .extract 0, [.tmp 79], none⟩,
            ⟨(some 83), .extract 1, [.tmp 79], none⟩,
            ⟨(some 14), .mv, [.tmp 82], none⟩,
            ⟨(some 15), .mv, [.tmp 83], none⟩])
         (.seq (.region [⟨(some 84), .mv, [.tmp 13], none⟩,
             ⟨(some 85), .bin .eql, [.tmp 84, .lit (.int .i64 6)], none⟩,
             ⟨(some 86), .mv, [.tmp 85], none⟩,
             ⟨(some 87), .mv, [.tmp 14], (some (86, true))⟩,
             ⟨(some 88), .bin .eql, [.tmp 87, .lit (.int .i64 2)], (some (86, true))⟩,
             ⟨(some 89), .pick, [.tmp 86, .tmp 88, .lit (.bool false)], none⟩,
             ⟨(some 90), .mv, [.tmp 89], none⟩,
             ⟨(some 91), .mv, [.tmp 15], (some (90, true))⟩,
             ⟨(some 92), .bin .eql, [.tmp 91, .lit (.int .i64 1)], (some (90, true))⟩,
             ⟨(some 93), .pick, [.tmp 90, .tmp 92, .lit (.bool false)], none⟩,
             ⟨(some 94), .mv, [.tmp 93], none⟩,
             ⟨(some 95), .callv, [.lit (.func 10 [] [])], (some (94, true))⟩,
             ⟨(some 96), .pick, [.tmp 94, .tmp 95, .lit (.bool false)], none⟩,
             ⟨(some 6), .mv, [.tmp 96], none⟩])
          (.ret)))))))))⟩
theorem t5 : trFn Try.prog Try.f5 h5 = some c5 := by kernel_rfl

/-- pantry/pantrylaw09.SwapActs -/
def h6 : List Hint := [.mask [false, false, false, false, false, true, true, false, false, false, false, false, false, false, false, false, false, false, false, false, false, false, false, false, false, false, false, false, false, false, false, false, true, true, true, false, false, false, false, false, false, false, false, false, false, false, false, false, false, false, false, false, false, false, false, false, false, false, false, false, false, false, false, false, false, false, false, false, false, false, false, false, false, false, false, false, false, false, false, false, false, false, false, false, false, false, false, false, false, false, false, false, false, false, false, false, false, false, false, false, false, false, false, false, false, false, false, false, false, false, false, false, false, false, false, false, false, false, false, false, false, false, false, false, false, false, false, false, false, false, false, false, false, false, false, false, false, false, false, false, false, false, false], .ord [(0, []), (1, []), (2, []), (3, []), (6, []), (7, []), (8, []), (9, []), (4, [2, 8, 9]), (5, [8, 9]), (10, [8]), (11, []), (12, []), (13, [])] [[], [], [1], [], [3], [0, 2, 4, 1, 3], [], [], [7], [], [9, 5, 0, 2, 4, 1, 3], [6, 8, 10, 7, 9, 5, 0, 2, 4, 1, 3], [5, 11, 0, 2, 4, 1, 3, 6, 8, 10, 7, 9], [12, 11, 0, 1, 2, 3, 4, 5, 6, 7, 8, 9, 10]], .ord [(0, []), (1, []), (2, []), (3, []), (4, []), (6, []), (7, []), (8, []), (9, []), (10, []), (5, [8, 10]), (11, []), (12, []), (13, [])] [[], [], [1], [], [3], [0, 2, 4, 1, 3], [], [], [7], [], [9], [6, 8, 10, 5, 7, 9, 0, 2, 4, 1, 3], [5, 11, 0, 2, 4, 1, 3, 6, 8, 10, 7, 9], [12, 11, 0, 1, 2, 3, 4, 5, 6, 7, 8, 9, 10]], .ord [(0, []), (1, []), (2, []), (3, []), (4, []), (5, []), (7, []), (8, []), (9, []), (6, [9]), (10, []), (11, []), (12, []), (13, []), (14, []), (15, []), (16, []), (17, []), (18, []), (19, []), (20, []), (21, []), (22, []), (23, []), (24, []), (25, []), (26, []), (27, []), (28, []), (29, []), (30, []), (31, []), (32, []), (33, []), (35, []), (36, []), (37, []), (38, []), (39, []), (34, [38]), (40, []), (41, [])] [[], [0], [1, 0], [2, 1, 0], [2, 1, 0], [4, 2, 1, 0], [3, 5, 2, 1, 0, 4], [2, 1, 0], [2, 1, 0], [8, 2, 1, 0], [7, 9, 6, 2, 1, 0, 8, 3, 5, 4], [6, 10, 2, 3, 5, 1, 0, 4, 7, 9, 8], [11, 2, 6, 10, 3, 5, 1, 0, 4, 7, 9, 8], [2, 12, 1, 0, 11, 6, 10, 3, 5, 4, 7, 9, 8], [13, 11, 2, 12, 1, 0, 6, 10, 3, 5, 4, 7, 9, 8], [14, 13, 11, 2, 12, 1, 0, 6, 10, 3, 5, 4, 7, 9, 8], [14, 13, 11, 2, 12, 1, 0, 6, 10, 3, 5, 4, 7, 9, 8], [16, 14, 13, 11, 2, 12, 1, 0, 6, 10, 3, 5, 4, 7, 9, 8], [17, 14, 16, 13, 11, 2, 12, 1, 0, 6, 10, 3, 5, 4, 7, 9, 8], [18, 14, 17, 16, 13, 11, 2, 12, 1, 0, 6, 10, 3, 5, 4, 7, 9, 8], [19, 14, 18, 17, 16, 13, 11, 2, 12, 1, 0, 6, 10, 3, 5, 4, 7, 9, 8], [15, 20, 14, 13, 11, 2, 12, 1, 0, 6, 10, 3, 5, 4, 7, 9, 8, 19, 18, 17, 16], [14, 21, 13, 11, 2, 12, 1, 0, 6, 10, 3, 5, 4, 7, 9, 8, 15, 20, 19, 18, 17, 16], [22, 14, 21, 13, 11, 2, 12, 1, 0, 6, 10, 3, 5, 4, 7, 9, 8, 15, 20, 19, 18, 17, 16], [23, 22, 14, 21, 13, 11, 2, 12, 1, 0, 6, 10, 3, 5, 4, 7, 9, 8, 15, 20, 19, 18, 17, 16], [23, 22, 14, 21, 13, 11, 2, 12, 1, 0, 6, 10, 3, 5, 4, 7, 9, 8, 15, 20, 19, 18, 17, 16], [25, 23, 22, 14, 21, 13, 11, 2, 12, 1, 0, 6, 10, 3, 5, 4, 7, 9, 8, 15, 20, 19, 18, 17, 16], [26, 23, 25, 22, 14, 21, 13, 11, 2, 12, 1, 0, 6, 10, 3, 5, 4, 7, 9, 8, 15, 20, 19, 18, 17, 16], [27, 23, 26, 25, 22, 14, 21, 13, 11, 2, 12, 1, 0, 6, 10, 3, 5, 4, 7, 9, 8, 15, 20, 19, 18, 17, 16], [28, 23, 27, 26, 25, 22, 14, 21, 13, 11, 2, 12, 1, 0, 6, 10, 3, 5, 4, 7, 9, 8, 15, 20, 19, 18, 17, 16], [24, 29, 23, 22, 14, 21, 13, 11, 2, 12, 1, 0, 6, 10, 3, 5, 4, 7, 9, 8, 15, 20, 19, 18, 17, 16, 28, 27, 26, 25], [23, 30, 22, 14, 21, 13, 11, 2, 12, 1, 0, 6, 10, 3, 5, 4, 7, 9, 8, 15, 20, 19, 18, 17, 16, 24, 29, 28, 27, 26, 25], [31, 23, 30, 22, 14, 21, 13, 11, 2, 12, 1, 0, 6, 10, 3, 5, 4, 7, 9, 8, 15, 20, 19, 18, 17, 16, 24, 29, 28, 27, 26, 25], [32, 31, 23, 30, 22, 14, 21, 13, 11, 2, 12, 1, 0, 6, 10, 3, 5, 4, 7, 9, 8, 15, 20, 19, 18, 17, 16, 24, 29, 28, 27, 26, 25], [33, 32, 31, 23, 30, 22, 14, 21, 13, 11, 2, 12, 1, 0, 6, 10, 3, 5, 4, 7, 9, 8, 15, 20, 19, 18, 17, 16, 24, 29, 28, 27, 26, 25], [32, 31, 23, 30, 22, 14, 21, 13, 11, 2, 12, 1, 0, 6, 10, 3, 5, 4, 7, 9, 8, 15, 20, 19, 18, 17, 16, 24, 29, 28, 27, 26, 25], [35, 32, 31, 23, 30, 22, 14, 21, 13, 11, 2, 12, 1, 0, 6, 10, 3, 5, 4, 7, 9, 8, 15, 20, 19, 18, 17, 16, 24, 29, 28, 27, 26, 25], [36, 32, 35, 31, 23, 30, 22, 14, 21, 13, 11, 2, 12, 1, 0, 6, 10, 3, 5, 4, 7, 9, 8, 15, 20, 19, 18, 17, 16, 24, 29, 28, 27, 26, 25], [37, 32, 36, 35, 31, 23, 30, 22, 14, 21, 13, 11, 2, 12, 1, 0, 6, 10, 3, 5, 4, 7, 9, 8, 15, 20, 19, 18, 17, 16, 24, 29, 28, 27, 26, 25], [38, 32, 37, 36, 35, 31, 23, 30, 22, 14, 21, 13, 11, 2, 12, 1, 0, 6, 10, 3, 5, 4, 7, 9, 8, 15, 20, 19, 18, 17, 16, 24, 29, 28, 27, 26, 25], [34, 39, 32, 33, 31, 23, 30, 22, 14, 21, 13, 11, 2, 12, 1, 0, 6, 10, 3, 5, 4, 7, 9, 8, 15, 20, 19, 18, 17, 16, 24, 29, 28, 27, 26, 25, 38, 37, 36, 35], [32, 40, 31, 23, 30, 22, 14, 21, 13, 11, 2, 12, 1, 0, 6, 10, 3, 5, 4, 7, 9, 8, 15, 20, 19, 18, 17, 16, 24, 29, 28, 27, 26, 25, 34, 39, 33, 38, 37, 36, 35]]]
def c6M0 : List Bool := [false, false, false, false, false, true, true, false, false, false, false, false, false, false, false, false, false, false, false, false, false, false, false, false, false, false, false, false, false, false, false, false, true, true, true, false, false, false, false, false, false, false, false, false, false, false, false, false, false, false, false, false, false, false, false, false, false, false, false, false, false, false, false, false, false, false, false, false, false, false, false, false, false, false, false, false, false, false, false, false, false, false, false, false, false, false, false, false, false, false, false, false, false, false, false, false, false, false, false, false, false, false, false, false, false, false, false, false, false, false, false, false, false, false, false, false, false, false, false, false, false, false, false, false, false, false, false, false, false, false, false, false, false, false, false, false, false, false, false, false, false, false, false]
def c6L0 : ACode :=
  .seq (.region [⟨(some 35), .bin .lss, [.tmp 34, .tmp 33], none⟩])
  (.seq (.cond (.tmp 35)
     (.skip)
     (.exit 0))
   (.seq (.block 1 (.seq (.region [⟨(some 36), .indexs 4, [.tmp 32, .tmp 34], none⟩,
         ⟨(some 37), .loadn 4, [.tmp 36], none⟩,
         ⟨(some 8), .alloc 31 4 (.vals [(.int .i64 0), (.int .i64 0), .nilsl, (.bool false)]), [], none⟩,
         ⟨none, .store 4, [.tmp 8, .tmp 37], none⟩])
      (.seq (.region [⟨(some 9), .mv, [.lit (.bool true)], none⟩])
       (.seq (.seq (.region [⟨(some 38), .fieldAddr 0, [.tmp 8], none⟩,
            ⟨(some 39), .load1, [.tmp 38], none⟩])
         (.block 2 (.seq (.region [⟨(some 41), .bin .eql, [.tmp 39, .lit (.int .i64 0)], none⟩,
              ⟨(some 40), .mv, [.tmp 41], none⟩])
           (.cond (.tmp 40)
             (.draw (⟨0, ⟨(some 42), .mv, [.tmp 5], none⟩, []⟩ ::
                ⟨1, ⟨(some 43), .fieldAddr 1, [.tmp 8], none⟩, []⟩ ::
                ⟨2, ⟨(some 44), .load1, [.tmp 43], none⟩, []⟩ ::
                ⟨3, ⟨(some 45), .loadn 4, [.tmp 8], none⟩, []⟩ ::
                ⟨6, ⟨(some 48), .mv, [.tmp 6], none⟩, []⟩ ::
                ⟨7, ⟨(some 49), .fieldAddr 1, [.tmp 8], none⟩, []⟩ ::
                ⟨8, ⟨(some 50), .load1, [.tmp 49], none⟩, []⟩ ::
                ⟨9, ⟨(some 51), .loadn 4, [.tmp 8], none⟩, []⟩ ::
                ⟨4, ⟨(some 46), .callv, [.lit (.func 13 [] []), .tmp 45], none⟩, [(2, ⟨(some 44), .load1, [.tmp 43], none⟩), (8, ⟨(some 50), .load1, [.tmp 49], none⟩), (9, ⟨(some 51), .loadn 4, [.tmp 8], none⟩)]⟩ ::
                ⟨5, ⟨(some 47), .callv, [.lit (.func 12 [] []), .tmp 42, .tmp 44, .tmp 46], none⟩, [(8, ⟨(some 50), .load1, [.tmp 49], none⟩), (9, ⟨(some 51), .loadn 4, [.tmp 8], none⟩)]⟩ ::
                ⟨10, ⟨(some 52), .callv, [.lit (.func 13 [] []), .tmp 51], none⟩, [(8, ⟨(some 50), .load1, [.tmp 49], none⟩)]⟩ ::
                ⟨11, ⟨(some 53), .callv, [.lit (.func 20 [] []), .tmp 48, .tmp 50, .tmp 52], none⟩, []⟩ ::
                ⟨12, ⟨(some 54), .bin .eql, [.tmp 47, .tmp 53], none⟩, []⟩ ::
                ⟨13, ⟨(some 9), .mv, [.tmp 54], none⟩, []⟩ ::
                []))
             (.seq (.region [⟨(some 56), .bin .eql, [.tmp 39, .lit (.int .i64 1)], none⟩,
                 ⟨(some 55), .mv, [.tmp 56], none⟩])
              (.cond (.tmp 55)
                (.seq (.region [⟨(some 58), .mv, [.tmp 5], none⟩,
                    ⟨(some 59), .fieldAddr 1, [.tmp 8], none⟩,
                    ⟨(some 60), .load1, [.tmp 59], none⟩,
                    ⟨(some 61), .callv, [.lit (.func 15 [] []), .tmp 58, .tmp 60], none⟩,
                    ⟨(some 57), .mv, [.tmp 61], none⟩,
                    ⟨(some 62), .extract 0, [.tmp 57], none⟩,
                    ⟨(some 63), .extract 1, [.tmp 57], none⟩,
                    ⟨(some 10), .mv, [.tmp 62], none⟩,
                    ⟨(some 11), .mv, [.tmp 63], none⟩])
                 (.seq (.region [⟨(some 65), .mv, [.tmp 6], none⟩,
                     ⟨(some 66), .fieldAddr 1, [.tmp 8], none⟩,
                     ⟨(some 67), .load1, [.tmp 66], none⟩,
                     ⟨(some 68), .callv, [.lit (.func 21 [] []), .tmp 65, .tmp 67], none⟩,
                     ⟨(some 64), .mv, [.tmp 68], none⟩,
                     ⟨(some 69), .extract 0, [.tmp 64], none⟩,
                     ⟨(some 70), .extract 1, [.tmp 64], none⟩,
                     ⟨(some 12), .mv, [.tmp 69], none⟩,
                     ⟨(some 13), .mv, [.tmp 70], none⟩])
                  (.region [⟨(some 71), .mv, [.tmp 10], none⟩,
                     ⟨(some 72), .mv, [.tmp 12], none⟩,
                     ⟨(some 73), .callv, [.lit (.func 16 [] []), .tmp 71, .tmp 72], none⟩,
                     ⟨(some 74), .mv, [.tmp 73], none⟩,
                     ⟨(some 75), .mv, [.tmp 11], (some (74, true))⟩,
                     ⟨(some 76), .mv, [.tmp 13], (some (74, true))⟩,
                     ⟨(some 77), .bin .eql, [.tmp 75, .tmp 76], (some (74, true))⟩,
                     ⟨(some 78), .pick, [.tmp 74, .tmp 77, .lit (.bool false)], none⟩,
                     ⟨(some 9), .mv, [.tmp 78], none⟩])))
                (.seq (.region [⟨(some 80), .bin .eql, [.tmp 39, .lit (.int .i64 2)], none⟩,
                    ⟨(some 79), .mv, [.tmp 80], none⟩])
                 (.cond (.tmp 79)
                   (.draw (⟨0, ⟨(some 81), .mv, [.tmp 5], none⟩, []⟩ ::
                      ⟨1, ⟨(some 82), .fieldAddr 3, [.tmp 8], none⟩, []⟩ ::
                      ⟨2, ⟨(some 83), .load1, [.tmp 82], none⟩, []⟩ ::
                      ⟨3, ⟨(some 84), .fieldAddr 1, [.tmp 8], none⟩, []⟩ ::
                      ⟨4, ⟨(some 85), .load1, [.tmp 84], none⟩, []⟩ ::
                      ⟨6, ⟨(some 87), .mv, [.tmp 6], none⟩, []⟩ ::
                      ⟨7, ⟨(some 88), .fieldAddr 3, [.tmp 8], none⟩, []⟩ ::
                      ⟨8, ⟨(some 89), .load1, [.tmp 88], none⟩, []⟩ ::
                      ⟨9, ⟨(some 90), .fieldAddr 1, [.tmp 8], none⟩, []⟩ ::
                      ⟨10, ⟨(some 91), .load1, [.tmp 90], none⟩, []⟩ ::
                      ⟨5, ⟨(some 86), .callv, [.lit (.func 14 [] []), .tmp 81, .tmp 83, .tmp 85], none⟩, [(8, ⟨(some 89), .load1, [.tmp 88], none⟩), (10, ⟨(some 91), .load1, [.tmp 90], none⟩)]⟩ ::
                      ⟨11, ⟨(some 92), .callv, [.lit (.func 22 [] []), .tmp 87, .tmp 89, .tmp 91], none⟩, []⟩ ::
                      ⟨12, ⟨(some 93), .bin .eql, [.tmp 86, .tmp 92], none⟩, []⟩ ::
                      ⟨13, ⟨(some 9), .mv, [.tmp 93], none⟩, []⟩ ::
                      []))
                   (.skip)))))))))
        (.seq (.region [⟨(some 95), .mv, [.tmp 5], none⟩,
            ⟨(some 96), .callv, [.lit (.func 17 [] []), .tmp 95], none⟩,
            ⟨(some 94), .mv, [.tmp 96], none⟩,
            ⟨(some 97), .extract 0, [.tmp 94], none⟩,
            ⟨(some 98), .extract 1, [.tmp 94], none⟩,
            ⟨(some 14), .mv, [.tmp 97], none⟩,
            ⟨(some 15), .mv, [.tmp 98], none⟩])
         (.seq (.draw (⟨0, ⟨(some 99), .mv, [.tmp 9], none⟩, []⟩ ::
             ⟨1, ⟨(some 100), .un .not, [.tmp 99], none⟩, []⟩ ::
             ⟨2, ⟨(some 101), .mv, [.tmp 100], none⟩, []⟩ ::
             ⟨3, ⟨(some 102), .mv, [.tmp 5], (some (101, false))⟩, []⟩ ::
             ⟨4, ⟨(some 103), .fieldAddr 1, [.tmp 8], (some (101, false))⟩, []⟩ ::
             ⟨5, ⟨(some 104), .load1, [.tmp 103], (some (101, false))⟩, []⟩ ::
             ⟨7, ⟨(some 106), .mv, [.tmp 6], (some (101, false))⟩, []⟩ ::
             ⟨8, ⟨(some 107), .fieldAddr 1, [.tmp 8], (some (101, false))⟩, []⟩ ::
             ⟨9, ⟨(some 108), .load1, [.tmp 107], (some (101, false))⟩, []⟩ ::
             ⟨6, ⟨(some 105), .callv, [.lit (.func 18 [] []), .tmp 102, .tmp 104], (some (101, false))⟩, [(9, ⟨(some 108), .load1, [.tmp 107], (some (101, false))⟩)]⟩ ::
             ⟨10, ⟨(some 109), .callv, [.lit (.func 23 [] []), .tmp 106, .tmp 108], (some (101, false))⟩, []⟩ ::
             ⟨11, ⟨(some 110), .callv, [.lit (.func 16 [] []), .tmp 105, .tmp 109], (some (101, false))⟩, []⟩ ::
             ⟨12, ⟨(some 111), .un .not, [.tmp 110], (some (101, false))⟩, []⟩ ::
             ⟨13, ⟨(some 112), .pick, [.tmp 101, .lit (.bool true), .tmp 111], none⟩, []⟩ ::
             ⟨14, ⟨(some 113), .mv, [.tmp 112], none⟩, []⟩ ::
             ⟨15, ⟨(some 114), .mv, [.tmp 14], (some (113, false))⟩, []⟩ ::
             ⟨16, ⟨(some 115), .mv, [.tmp 6], (some (113, false))⟩, []⟩ ::
             ⟨17, ⟨(some 116), .nilCheck, [.tmp 115], (some (113, false))⟩, []⟩ ::
             ⟨18, ⟨(some 117), .fieldAddr 3, [.tmp 116], (some (113, false))⟩, []⟩ ::
             ⟨19, ⟨(some 118), .indexa 2 1, [.tmp 117, .lit (.int .i64 1)], (some (113, false))⟩, []⟩ ::
             ⟨20, ⟨(some 119), .load1, [.tmp 118], (some (113, false))⟩, []⟩ ::
             ⟨21, ⟨(some 120), .bin .neq, [.tmp 114, .tmp 119], (some (113, false))⟩, []⟩ ::
             ⟨22, ⟨(some 121), .pick, [.tmp 113, .lit (.bool true), .tmp 120], none⟩, []⟩ ::
             ⟨23, ⟨(some 122), .mv, [.tmp 121], none⟩, []⟩ ::
             ⟨24, ⟨(some 123), .mv, [.tmp 15], (some (122, false))⟩, []⟩ ::
             ⟨25, ⟨(some 124), .mv, [.tmp 6], (some (122, false))⟩, []⟩ ::
             ⟨26, ⟨(some 125), .nilCheck, [.tmp 124], (some (122, false))⟩, []⟩ ::
             ⟨27, ⟨(some 126), .fieldAddr 3, [.tmp 125], (some (122, false))⟩, []⟩ ::
             ⟨28, ⟨(some 127), .indexa 2 1, [.tmp 126, .lit (.int .i64 0)], (some (122, false))⟩, []⟩ ::
             ⟨29, ⟨(some 128), .load1, [.tmp 127], (some (122, false))⟩, []⟩ ::
             ⟨30, ⟨(some 129), .bin .neq, [.tmp 123, .tmp 128], (some (122, false))⟩, []⟩ ::
             ⟨31, ⟨(some 130), .pick, [.tmp 122, .lit (.bool true), .tmp 129], none⟩, []⟩ ::
             ⟨32, ⟨(some 131), .mv, [.tmp 130], none⟩, []⟩ ::
             ⟨33, ⟨(some 132), .mv, [.tmp 5], (some (131, false))⟩, []⟩ ::
             ⟨35, ⟨(some 134), .mv, [.tmp 6], (some (131, false))⟩, []⟩ ::
             ⟨36, ⟨(some 135), .nilCheck, [.tmp 134], (some (131, false))⟩, []⟩ ::
             ⟨37, ⟨(some 136), .fieldAddr 0, [.tmp 135], (some (131, false))⟩, []⟩ ::
             ⟨38, ⟨(some 137), .load1, [.tmp 136], (some (131, false))⟩, []⟩ ::
             ⟨39, ⟨(some 138), .lens, [.tmp 137], (some (131, false))⟩, []⟩ ::
             ⟨34, ⟨(some 133), .callv, [.lit (.func 24 [] []), .tmp 132], (some (131, false))⟩, [(38, ⟨(some 137), .load1, [.tmp 136], (some (131, false))⟩)]⟩ ::
             ⟨40, ⟨(some 139), .bin .neq, [.tmp 133, .tmp 138], (some (131, false))⟩, []⟩ ::
             ⟨41, ⟨(some 140), .pick, [.tmp 131, .lit (.bool true), .tmp 139], none⟩, []⟩ ::
             []))
          (.cond (.tmp 140)
            (.seq (.region [⟨(some 4), .mv, [.lit (.bool false)], none⟩])
             (.ret))
            (.skip))))))))
    (.region [⟨(some 141), .bin .add, [.tmp 34, .lit (.int .i64 1)], none⟩,
       ⟨(some 34), .mv, [.tmp 141], none⟩])))
def c6 : AFn := ⟨143, [.tmp 4],
  .seq (.region [⟨(some 4), .mv, [.lit (.bool false)], none⟩])
  (.seq (.seq (.region [⟨(some 16), .mv, [.tmp 1], none⟩,
       ⟨(some 17), .callv, [.lit (.func 9 [] []), .tmp 16], none⟩,
       ⟨(some 18), .un .not, [.tmp 17], none⟩])
    (.cond (.tmp 18)
      (.seq (.region [⟨(some 19), .callv, [.lit (.func 10 [] [])], none⟩,
          ⟨(some 4), .mv, [.tmp 19], none⟩])
       (.ret))
      (.skip)))
   (.seq (.region [⟨(some 20), .mv, [.tmp 0], none⟩,
       ⟨(some 21), .callv, [.lit (.func 8 [] []), .tmp 20], none⟩,
       ⟨(some 22), .mv, [.tmp 0], none⟩,
       ⟨(some 23), .callv, [.lit (.func 19 [] []), .tmp 22], none⟩,
       ⟨(some 5), .mv, [.tmp 21], none⟩,
       ⟨(some 6), .mv, [.tmp 23], none⟩])
    (.seq (.seq (.region [⟨(some 24), .mv, [.tmp 5], none⟩,
         ⟨(some 25), .eqv false .ptr, [.tmp 24, .lit .nilptr], none⟩,
         ⟨(some 26), .mv, [.tmp 6], none⟩,
         ⟨(some 27), .eqv false .ptr, [.tmp 26, .lit .nilptr], none⟩,
         ⟨(some 28), .eqv true (.scal .bool), [.tmp 25, .tmp 27], none⟩])
      (.cond (.tmp 28)
        (.seq (.region [⟨(some 4), .mv, [.lit (.bool false)], none⟩])
         (.ret))
        (.skip)))
     (.seq (.seq (.region [⟨(some 29), .mv, [.tmp 6], none⟩,
          ⟨(some 30), .eqv false .ptr, [.tmp 29, .lit .nilptr], none⟩])
       (.cond (.tmp 30)
         (.seq (.region [⟨(some 31), .callv, [.lit (.func 10 [] [])], none⟩,
             ⟨(some 4), .mv, [.tmp 31], none⟩])
          (.ret))
         (.skip)))
      (.seq (.seq (.region [⟨(some 32), .mv, [.tmp 1], none⟩,
           ⟨(some 33), .lens, [.tmp 32], none⟩,
           ⟨(some 34), .mv, [.lit (.int .i64 0)], none⟩])
        (.block 0 (.loop c6M0 c6L0)))
       (.seq (.region [⟨(some 142), .callv, [.lit (.func 10 [] [])], none⟩,
           ⟨(some 4), .mv, [.tmp 142], none⟩])
        (.ret)))))))⟩
theorem t6 : trFn Try.prog Try.f6 h6 = some c6 := by kernel_rfl

/-- pantry/pantrylaw09.SwapNone -/
def h7 : List Hint := [.mask [false, true, false, false, false, false, false, false, false, false, false, false, false, false, false, true, true, false, false, false, false, false, false, false, false, false, false, false, false, false, false, false, false, false, false, false, false, false, false, false, false, false, false, false, false, false, false, false, false, false, false, false, false, false, false, false, false, false, false, false, false, false, false, false, false, false, false, false], .ord [(0, []), (1, []), (2, []), (3, []), (4, []), (5, []), (6, []), (7, [5]), (8, []), (9, []), (10, []), (11, []), (12, []), (13, []), (14, []), (15, []), (16, []), (17, []), (18, []), (19, []), (20, []), (21, []), (22, []), (23, []), (24, []), (27, []), (28, []), (29, []), (25, [29]), (26, []), (30, []), (31, []), (32, []), (33, []), (34, [])] [[], [0], [1, 0], [2, 1, 0], [2, 1, 0], [4, 2, 1, 0], [2, 1, 0], [6, 2, 1, 0], [3, 5, 7, 2, 1, 0, 4, 6], [8, 2, 3, 5, 7, 1, 0, 4, 6], [2, 9, 1, 0, 8, 3, 5, 7, 4, 6], [10, 8, 2, 9, 1, 0, 3, 5, 7, 4, 6], [11, 10, 8, 2, 9, 1, 0, 3, 5, 7, 4, 6], [11, 10, 8, 2, 9, 1, 0, 3, 5, 7, 4, 6], [13, 11, 10, 8, 2, 9, 1, 0, 3, 5, 7, 4, 6], [11, 10, 8, 2, 9, 1, 0, 3, 5, 7, 4, 6], [15, 11, 10, 8, 2, 9, 1, 0, 3, 5, 7, 4, 6], [12, 14, 16, 11, 10, 8, 2, 9, 1, 0, 3, 5, 7, 4, 6, 13, 15], [17, 11, 12, 14, 16, 10, 8, 2, 9, 1, 0, 3, 5, 7, 4, 6, 13, 15], [11, 18, 10, 8, 2, 9, 1, 0, 3, 5, 7, 4, 6, 17, 12, 14, 16, 13, 15], [19, 17, 11, 18, 10, 8, 2, 9, 1, 0, 3, 5, 7, 4, 6, 12, 14, 16, 13, 15], [20, 19, 17, 11, 18, 10, 8, 2, 9, 1, 0, 3, 5, 7, 4, 6, 12, 14, 16, 13, 15], [20, 19, 17, 11, 18, 10, 8, 2, 9, 1, 0, 3, 5, 7, 4, 6, 12, 14, 16, 13, 15], [21, 22, 20, 19, 17, 11, 18, 10, 8, 2, 9, 1, 0, 3, 5, 7, 4, 6, 12, 14, 16, 13, 15], [20, 19, 17, 11, 18, 10, 8, 2, 9, 1, 0, 3, 5, 7, 4, 6, 12, 14, 16, 13, 15], [24, 20, 19, 17, 11, 18, 10, 8, 2, 9, 1, 0, 3, 5, 7, 4, 6, 12, 14, 16, 13, 15], [23, 25, 20, 21, 22, 19, 17, 11, 18, 10, 8, 2, 9, 1, 0, 3, 5, 7, 4, 6, 12, 14, 16, 13, 15, 24], [20, 19, 17, 11, 18, 10, 8, 2, 9, 1, 0, 3, 5, 7, 4, 6, 12, 14, 16, 13, 15], [20, 19, 17, 11, 18, 10, 8, 2, 9, 1, 0, 3, 5, 7, 4, 6, 12, 14, 16, 13, 15], [28, 20, 19, 17, 11, 18, 10, 8, 2, 9, 1, 0, 3, 5, 7, 4, 6, 12, 14, 16, 13, 15], [27, 29, 25, 20, 19, 17, 11, 18, 10, 8, 2, 9, 1, 0, 3, 5, 7, 4, 6, 12, 14, 16, 13, 15, 28, 24], [30, 20, 27, 29, 25, 19, 17, 11, 18, 10, 8, 2, 9, 1, 0, 3, 5, 7, 4, 6, 12, 14, 16, 13, 15, 28, 24], [26, 31, 20, 23, 25, 21, 22, 19, 17, 11, 18, 10, 8, 2, 9, 1, 0, 3, 5, 7, 4, 6, 12, 14, 16, 13, 15, 24, 30, 27, 29, 28], [32, 20, 26, 31, 23, 25, 21, 22, 19, 17, 11, 18, 10, 8, 2, 9, 1, 0, 3, 5, 7, 4, 6, 12, 14, 16, 13, 15, 24, 30, 27, 29, 28], [20, 33, 19, 17, 11, 18, 10, 8, 2, 9, 1, 0, 3, 5, 7, 4, 6, 12, 14, 16, 13, 15, 32, 26, 31, 23, 25, 21, 22, 24, 30, 27, 29, 28]]]
def c7M0 : List Bool := [false, true, false, false, false, false, false, false, false, false, false, false, false, false, false, true, true, false, false, false, false, false, false, false, false, false, false, false, false, false, false, false, false, false, false, false, false, false, false, false, false, false, false, false, false, false, false, false, false, false, false, false, false, false, false, false, false, false, false, false, false, false, false, false, false, false, false, false]
def c7L0 : ACode :=
  .seq (.region [⟨(some 17), .bin .lss, [.tmp 16, .lit (.int .i64 2)], none⟩])
  (.seq (.cond (.tmp 17)
     (.skip)
     (.exit 0))
   (.seq (.block 1 (.seq (.region [⟨(some 18), .indexv 2 1 false, [.tmp 15, .tmp 16], none⟩,
         ⟨(some 5), .mv, [.tmp 18], none⟩])
      (.seq (.region [⟨(some 20), .mv, [.tmp 5], none⟩,
          ⟨(some 21), .fieldAddr 1, [.tmp 1], none⟩,
          ⟨(some 22), .load1, [.tmp 21], none⟩,
          ⟨(some 23), .callv, [.lit (.func 15 [] []), .tmp 20, .tmp 22], none⟩,
          ⟨(some 19), .mv, [.tmp 23], none⟩,
          ⟨(some 24), .extract 0, [.tmp 19], none⟩,
          ⟨(some 25), .extract 1, [.tmp 19], none⟩,
          ⟨(some 6), .mv, [.tmp 24], none⟩,
          ⟨(some 7), .mv, [.tmp 25], none⟩])
       (.seq (.region [⟨(some 27), .mv, [.tmp 5], none⟩,
           ⟨(some 28), .callv, [.lit (.func 17 [] []), .tmp 27], none⟩,
           ⟨(some 26), .mv, [.tmp 28], none⟩,
           ⟨(some 29), .extract 0, [.tmp 26], none⟩,
           ⟨(some 30), .extract 1, [.tmp 26], none⟩,
           ⟨(some 8), .mv, [.tmp 29], none⟩,
           ⟨(some 9), .mv, [.tmp 30], none⟩])
        (.seq (.draw (⟨0, ⟨(some 31), .mv, [.tmp 7], none⟩, []⟩ ::
            ⟨1, ⟨(some 32), .bin .neq, [.tmp 31, .lit (.int .i64 1)], none⟩, []⟩ ::
            ⟨2, ⟨(some 33), .mv, [.tmp 32], none⟩, []⟩ ::
            ⟨3, ⟨(some 34), .mv, [.tmp 5], (some (33, false))⟩, []⟩ ::
            ⟨4, ⟨(some 35), .fieldAddr 1, [.tmp 1], (some (33, false))⟩, []⟩ ::
            ⟨5, ⟨(some 36), .load1, [.tmp 35], (some (33, false))⟩, []⟩ ::
            ⟨6, ⟨(some 37), .loadn 4, [.tmp 1], (some (33, false))⟩, []⟩ ::
            ⟨7, ⟨(some 38), .callv, [.lit (.func 13 [] []), .tmp 37], (some (33, false))⟩, [(5, ⟨(some 36), .load1, [.tmp 35], (some (33, false))⟩)]⟩ ::
            ⟨8, ⟨(some 39), .callv, [.lit (.func 12 [] []), .tmp 34, .tmp 36, .tmp 38], (some (33, false))⟩, []⟩ ::
            ⟨9, ⟨(some 40), .bin .neq, [.tmp 39, .lit (.int .i64 1)], (some (33, false))⟩, []⟩ ::
            ⟨10, ⟨(some 41), .pick, [.tmp 33, .lit (.bool true), .tmp 40], none⟩, []⟩ ::
            ⟨11, ⟨(some 42), .mv, [.tmp 41], none⟩, []⟩ ::
            ⟨12, ⟨(some 43), .mv, [.tmp 5], (some (42, false))⟩, []⟩ ::
            ⟨13, ⟨(some 44), .fieldAddr 3, [.tmp 1], (some (42, false))⟩, []⟩ ::
            ⟨14, ⟨(some 45), .load1, [.tmp 44], (some (42, false))⟩, []⟩ ::
            ⟨15, ⟨(some 46), .fieldAddr 1, [.tmp 1], (some (42, false))⟩, []⟩ ::
            ⟨16, ⟨(some 47), .load1, [.tmp 46], (some (42, false))⟩, []⟩ ::
            ⟨17, ⟨(some 48), .callv, [.lit (.func 14 [] []), .tmp 43, .tmp 45, .tmp 47], (some (42, false))⟩, []⟩ ::
            ⟨18, ⟨(some 49), .bin .neq, [.tmp 48, .lit (.int .i64 1)], (some (42, false))⟩, []⟩ ::
            ⟨19, ⟨(some 50), .pick, [.tmp 42, .lit (.bool true), .tmp 49], none⟩, []⟩ ::
            ⟨20, ⟨(some 51), .mv, [.tmp 50], none⟩, []⟩ ::
            ⟨21, ⟨(some 52), .mv, [.tmp 8], (some (51, false))⟩, []⟩ ::
            ⟨22, ⟨(some 53), .mv, [.tmp 9], (some (51, false))⟩, []⟩ ::
            ⟨23, ⟨(some 54), .bin .add, [.tmp 52, .tmp 53], (some (51, false))⟩, []⟩ ::
            ⟨24, ⟨(some 55), .mv, [.tmp 5], (some (51, false))⟩, []⟩ ::
            ⟨27, ⟨(some 58), .mv, [.tmp 5], (some (51, false))⟩, []⟩ ::
            ⟨28, ⟨(some 59), .fieldAddr 1, [.tmp 1], (some (51, false))⟩, []⟩ ::
            ⟨29, ⟨(some 60), .load1, [.tmp 59], (some (51, false))⟩, []⟩ ::
            ⟨25, ⟨(some 56), .callv, [.lit (.func 24 [] []), .tmp 55], (some (51, false))⟩, [(29, ⟨(some 60), .load1, [.tmp 59], (some (51, false))⟩)]⟩ ::
            ⟨26, ⟨(some 57), .bin .add, [.tmp 54, .tmp 56], (some (51, false))⟩, []⟩ ::
            ⟨30, ⟨(some 61), .callv, [.lit (.func 18 [] []), .tmp 58, .tmp 60], (some (51, false))⟩, []⟩ ::
            ⟨31, ⟨(some 62), .lens, [.tmp 61], (some (51, false))⟩, []⟩ ::
            ⟨32, ⟨(some 63), .bin .add, [.tmp 57, .tmp 62], (some (51, false))⟩, []⟩ ::
            ⟨33, ⟨(some 64), .bin .neq, [.tmp 63, .lit (.int .i64 0)], (some (51, false))⟩, []⟩ ::
            ⟨34, ⟨(some 65), .pick, [.tmp 51, .lit (.bool true), .tmp 64], none⟩, []⟩ ::
            []))
         (.cond (.tmp 65)
           (.seq (.region [⟨(some 2), .mv, [.lit (.bool false)], none⟩])
            (.ret))
           (.skip)))))))
    (.region [⟨(some 66), .bin .add, [.tmp 16, .lit (.int .i64 1)], none⟩,
       ⟨(some 16), .mv, [.tmp 66], none⟩])))
def c7 : AFn := ⟨68, [.tmp 2],
  .seq (.region [⟨(some 1), .box 31 4, [.tmp 0], none⟩,
     ⟨(some 2), .mv, [.lit (.bool false)], none⟩])
  (.seq (.seq (.region [⟨(some 10), .loadn 4, [.tmp 1], none⟩,
       ⟨(some 11), .bslice 31 4 1 (.vals [(.int .i64 0), (.int .i64 0), .nilsl, (.bool false)]) [0], [.tmp 10], none⟩,
       ⟨(some 12), .callv, [.lit (.func 9 [] []), .tmp 11], none⟩,
       ⟨(some 13), .un .not, [.tmp 12], none⟩])
    (.cond (.tmp 13)
      (.seq (.region [⟨(some 14), .callv, [.lit (.func 10 [] [])], none⟩,
          ⟨(some 2), .mv, [.tmp 14], none⟩])
       (.ret))
      (.skip)))
   (.seq (.region [⟨(some 3), .alloc 62 7 (.vals [(.int .i64 0), (.bool false), .nilmap, (.int .i64 0), (.int .i64 0), (.int .i64 0), (.int .i64 0)]), [], none⟩])
    (.seq (.seq (.region [⟨(some 15), .build (.agg [.nilptr, .nilptr]) [(0, 1), (1, 1)], [.lit .nilptr, .tmp 3], none⟩,
         ⟨(some 16), .mv, [.lit (.int .i64 0)], none⟩])
      (.block 0 (.loop c7M0 c7L0)))
     (.seq (.region [⟨(some 67), .callv, [.lit (.func 10 [] [])], none⟩,
         ⟨(some 2), .mv, [.tmp 67], none⟩])
      (.ret)))))⟩
theorem t7 : trFn Try.prog Try.f7 h7 = some c7 := by kernel_rfl

/-- pantry/swap.New -/
def h8 : List Hint := []
def c8 : AFn := ⟨13, [.tmp 2],
  .seq (.region [⟨(some 2), .mv, [.lit .nilptr], none⟩])
  (.seq (.seq (.region [⟨(some 3), .mv, [.tmp 0], none⟩,
       ⟨(some 4), .bin .lss, [.tmp 3, .lit (.int .i64 0)], none⟩,
       ⟨(some 5), .mv, [.tmp 4], none⟩,
       ⟨(some 6), .mv, [.tmp 0], (some (5, false))⟩,
       ⟨(some 7), .bin .gtr, [.tmp 6, .lit (.int .i64 256)], (some (5, false))⟩,
       ⟨(some 8), .pick, [.tmp 5, .lit (.bool true), .tmp 7], none⟩])
    (.cond (.tmp 8)
      (.seq (.region [⟨(some 2), .mv, [.lit .nilptr], none⟩])
       (.ret))
      (.skip)))
   (.seq (.region [⟨(some 9), .mv, [.tmp 0], none⟩,
       ⟨(some 10), .mkmap, [], none⟩,
       ⟨(some 11), .build (.agg [(.int .i64 0), (.bool false), .nilmap, (.int .i64 0), (.int .i64 0), (.int .i64 0), (.int .i64 0)]) [(0, 1), (1, 1), (2, 1)], [.tmp 9, .lit (.bool true), .tmp 10], none⟩,
       ⟨(some 12), .box 62 7, [.tmp 11], none⟩,
       ⟨(some 2), .mv, [.tmp 12], none⟩])
    (.ret)))⟩
theorem t8 : trFn Try.prog Try.f8 h8 = some c8 := by kernel_rfl

/-- pantry/pantrylaw09.light -/
def h9 : List Hint := [.mask [false, false, false, false, false, false, false, false, true, true, true, false, false, false, false, false, false, false, false]]
def c9M0 : List Bool := [false, false, false, false, false, false, false, false, true, true, true, false, false, false, false, false, false, false, false]
def c9L0 : ACode :=
  .seq (.region [⟨(some 11), .bin .lss, [.tmp 10, .tmp 9], none⟩])
  (.seq (.cond (.tmp 11)
     (.skip)
     (.exit 0))
   (.seq (.block 1 (.seq (.region [⟨(some 12), .indexs 4, [.tmp 8, .tmp 10], none⟩,
         ⟨(some 13), .loadn 4, [.tmp 12], none⟩,
         ⟨(some 4), .alloc 31 4 (.vals [(.int .i64 0), (.int .i64 0), .nilsl, (.bool false)]), [], none⟩,
         ⟨none, .store 4, [.tmp 4, .tmp 13], none⟩])
      (.seq (.region [⟨(some 14), .fieldAddr 2, [.tmp 4], none⟩,
          ⟨(some 15), .load1, [.tmp 14], none⟩,
          ⟨(some 16), .lens, [.tmp 15], none⟩,
          ⟨(some 17), .bin .gtr, [.tmp 16, .lit (.int .i64 5000)], none⟩])
       (.cond (.tmp 17)
         (.seq (.region [⟨(some 2), .mv, [.lit (.bool false)], none⟩])
          (.ret))
         (.skip)))))
    (.region [⟨(some 18), .bin .add, [.tmp 10, .lit (.int .i64 1)], none⟩,
       ⟨(some 10), .mv, [.tmp 18], none⟩])))
def c9 : AFn := ⟨19, [.tmp 2],
  .seq (.region [⟨(some 2), .mv, [.lit (.bool false)], none⟩])
  (.seq (.seq (.region [⟨(some 5), .mv, [.tmp 0], none⟩,
       ⟨(some 6), .lens, [.tmp 5], none⟩,
       ⟨(some 7), .bin .gtr, [.tmp 6, .lit (.int .i64 60)], none⟩])
    (.cond (.tmp 7)
      (.seq (.region [⟨(some 2), .mv, [.lit (.bool false)], none⟩])
       (.ret))
      (.skip)))
   (.seq (.seq (.region [⟨(some 8), .mv, [.tmp 0], none⟩,
        ⟨(some 9), .lens, [.tmp 8], none⟩,
        ⟨(some 10), .mv, [.lit (.int .i64 0)], none⟩])
     (.block 0 (.loop c9M0 c9L0)))
    (.seq (.region [⟨(some 2), .mv, [.lit (.bool true)], none⟩])
     (.ret))))⟩
theorem t9 : trFn Try.prog Try.f9 h9 = some c9 := by kernel_rfl

/-- pantry/pantrylaw09.lives -/
def h10 : List Hint := []
def c10 : AFn := ⟨27, [.tmp 0],
  .seq (.region [⟨(some 0), .mv, [.lit (.bool false)], none⟩])
  (.seq (.region [⟨(some 2), .callv, [.lit (.func 8 [] []), .lit (.int .i64 2)], none⟩,
      ⟨(some 1), .mv, [.tmp 2], none⟩])
   (.seq (.region (⟨(some 3), .mv, [.tmp 1], none⟩ ::
       ⟨(some 4), .callv, [.lit (.func 14 [] []), .tmp 3, .lit (.bool true), .lit (.int .i64 2)], none⟩ ::
       ⟨(some 5), .bin .eql, [.tmp 4, .lit (.int .i64 0)], none⟩ ::
       ⟨(some 6), .mv, [.tmp 5], none⟩ ::
       ⟨(some 7), .mv, [.tmp 1], (some (6, true))⟩ ::
       ⟨(some 8), .bslice 5 1 1 (.bytes 1 0) [0], [.lit (.int .u8 1)], (some (6, true))⟩ ::
       ⟨(some 9), .callv, [.lit (.func 11 [] []), .tmp 8], (some (6, true))⟩ ::
       ⟨(some 10), .callv, [.lit (.func 12 [] []), .tmp 7, .lit (.int .i64 0), .tmp 9], (some (6, true))⟩ ::
       ⟨(some 11), .bin .eql, [.tmp 10, .lit (.int .i64 0)], (some (6, true))⟩ ::
       ⟨(some 12), .pick, [.tmp 6, .tmp 11, .lit (.bool false)], none⟩ ::
       ⟨(some 13), .mv, [.tmp 12], none⟩ ::
       ⟨(some 14), .mv, [.tmp 1], (some (13, true))⟩ ::
       ⟨(some 15), .bslice 5 1 1 (.bytes 1 0) [0], [.lit (.int .u8 2)], (some (13, true))⟩ ::
       ⟨(some 16), .callv, [.lit (.func 11 [] []), .tmp 15], (some (13, true))⟩ ::
       ⟨(some 17), .callv, [.lit (.func 12 [] []), .tmp 14, .lit (.int .i64 0), .tmp 16], (some (13, true))⟩ ::
       ⟨(some 18), .bin .eql, [.tmp 17, .lit (.int .i64 6)], (some (13, true))⟩ ::
       ⟨(some 19), .pick, [.tmp 13, .tmp 18, .lit (.bool false)], none⟩ ::
       ⟨(some 20), .mv, [.tmp 19], none⟩ ::
       ⟨(some 21), .mv, [.tmp 1], (some (20, true))⟩ ::
       ⟨(some 22), .bslice 5 1 1 (.bytes 1 0) [0], [.lit (.int .u8 3)], (some (20, true))⟩ ::
       ⟨(some 23), .callv, [.lit (.func 11 [] []), .tmp 22], (some (20, true))⟩ ::
       ⟨(some 24), .callv, [.lit (.func 12 [] []), .tmp 21, .lit (.int .i64 1), .tmp 23], (some (20, true))⟩ ::
       ⟨(some 25), .bin .eql, [.tmp 24, .lit (.int .i64 0)], (some (20, true))⟩ ::
       ⟨(some 26), .pick, [.tmp 20, .tmp 25, .lit (.bool false)], none⟩ ::
       ⟨(some 0), .mv, [.tmp 26], none⟩ ::
       []))
    (.ret)))⟩
theorem t10 : trFn Try.prog Try.f10 h10 = some c10 := by kernel_rfl

/-- pantry/pantrylaw09.page -/
def h11 : List Hint := []
def c11 : AFn := ⟨9, [.tmp 2],
  .seq (.region [⟨(some 2), .mv, [.lit .nilsl], none⟩])
  (.seq (.region [⟨(some 4), .mkslice 5 1 1 (.bytes 1 0), [.lit (.int .i64 4096), .lit (.int .i64 4096)], none⟩,
      ⟨(some 3), .mv, [.tmp 4], none⟩])
   (.seq (.region [⟨(some 5), .mv, [.tmp 3], none⟩,
       ⟨(some 6), .mv, [.tmp 0], none⟩,
       ⟨(some 7), .copy 1, [.tmp 5, .tmp 6], none⟩])
    (.seq (.region [⟨(some 8), .mv, [.tmp 3], none⟩,
        ⟨(some 2), .mv, [.tmp 8], none⟩])
     (.ret))))⟩
theorem t11 : trFn Try.prog Try.f11 h11 = some c11 := by kernel_rfl

/-- (*pantry/swap.Device).Write -/
def h12 : List Hint := [.ord [(0, []), (1, []), (2, []), (3, []), (4, []), (5, []), (6, []), (7, []), (8, [])] [[], [0], [1, 0], [2, 1, 0], [], [], [5], [6, 5], [3, 4, 7, 0, 1, 2, 5, 6]]]
def c12 : AFn := ⟨29, [.tmp 6],
  .seq (.region [⟨(some 6), .mv, [.lit (.int .i64 0)], none⟩])
  (.seq (.seq (.region [⟨(some 8), .mv, [.tmp 0], none⟩,
       ⟨(some 9), .mv, [.tmp 1], none⟩,
       ⟨(some 10), .mv, [.tmp 2], none⟩,
       ⟨(some 11), .lens, [.tmp 10], none⟩,
       ⟨(some 12), .bin .eql, [.tmp 11, .lit (.int .i64 4096)], none⟩,
       ⟨(some 13), .callv, [.lit (.func 25 [] []), .tmp 8, .tmp 9, .tmp 12], none⟩,
       ⟨(some 7), .mv, [.tmp 13], none⟩])
    (.seq (.region [⟨(some 14), .mv, [.tmp 7], none⟩,
        ⟨(some 15), .bin .neq, [.tmp 14, .lit (.int .i64 0)], none⟩])
     (.cond (.tmp 15)
       (.seq (.region [⟨(some 16), .mv, [.tmp 7], none⟩,
           ⟨(some 6), .mv, [.tmp 16], none⟩])
        (.ret))
       (.skip))))
   (.seq (.seq (.region [⟨(some 17), .mv, [.tmp 0], none⟩,
        ⟨(some 18), .nilCheck, [.tmp 17], none⟩,
        ⟨(some 19), .fieldAddr 3, [.tmp 18], none⟩,
        ⟨(some 20), .callv, [.lit (.func 26 [] []), .tmp 19], none⟩])
     (.cond (.tmp 20)
       (.seq (.region [⟨(some 6), .mv, [.lit (.int .i64 6)], none⟩])
        (.ret))
       (.skip)))
    (.seq (.draw (⟨0, ⟨(some 21), .mv, [.tmp 0], none⟩, []⟩ ::
        ⟨1, ⟨(some 22), .nilCheck, [.tmp 21], none⟩, []⟩ ::
        ⟨2, ⟨(some 23), .fieldAddr 2, [.tmp 22], none⟩, []⟩ ::
        ⟨3, ⟨(some 24), .load1, [.tmp 23], none⟩, []⟩ ::
        ⟨4, ⟨(some 25), .mv, [.tmp 1], none⟩, []⟩ ::
        ⟨5, ⟨(some 26), .mv, [.tmp 2], none⟩, []⟩ ::
        ⟨6, ⟨(some 27), .sl2arr 4096, [.tmp 26], none⟩, []⟩ ::
        ⟨7, ⟨(some 28), .loadn 4096, [.tmp 27], none⟩, []⟩ ::
        ⟨8, ⟨none, .mapput (.scal .int), [.tmp 24, .tmp 25, .tmp 28], none⟩, []⟩ ::
        []))
     (.seq (.region [⟨(some 6), .mv, [.lit (.int .i64 0)], none⟩])
      (.ret)))))⟩
theorem t12 : trFn Try.prog Try.f12 h12 = some c12 := by kernel_rfl

/-- (pantry/pantrylaw09.Act).bytes -/
def h13 : List Hint := []
def c13 : AFn := ⟨10, [.tmp 2],
  .seq (.region [⟨(some 1), .box 31 4, [.tmp 0], none⟩,
     ⟨(some 2), .mv, [.lit .nilsl], none⟩])
  (.seq (.seq (.region [⟨(some 3), .fieldAddr 3, [.tmp 1], none⟩,
       ⟨(some 4), .load1, [.tmp 3], none⟩])
    (.cond (.tmp 4)
      (.seq (.region [⟨(some 5), .fieldAddr 2, [.tmp 1], none⟩,
          ⟨(some 6), .load1, [.tmp 5], none⟩,
          ⟨(some 2), .mv, [.tmp 6], none⟩])
       (.ret))
      (.skip)))
   (.seq (.region [⟨(some 7), .fieldAddr 2, [.tmp 1], none⟩,
       ⟨(some 8), .load1, [.tmp 7], none⟩,
       ⟨(some 9), .callv, [.lit (.func 11 [] []), .tmp 8], none⟩,
       ⟨(some 2), .mv, [.tmp 9], none⟩])
    (.ret)))⟩
theorem t13 : trFn Try.prog Try.f13 h13 = some c13 := by kernel_rfl

/-- (*pantry/swap.Device).Plan -/
def h14 : List Hint := []
def c14 : AFn := ⟨26, [.tmp 6],
  .seq (.region [⟨(some 6), .mv, [.lit (.int .i64 0)], none⟩])
  (.seq (.block 0 (.seq (.region [⟨(some 13), .mv, [.tmp 0], none⟩,
        ⟨(some 14), .callv, [.lit (.func 27 [] []), .tmp 13], none⟩,
        ⟨(some 15), .un .not, [.tmp 14], none⟩,
        ⟨(some 12), .mv, [.tmp 15], none⟩])
     (.cond (.tmp 12)
       (.seq (.region [⟨(some 6), .mv, [.lit (.int .i64 1)], none⟩])
        (.ret))
       (.seq (.region [⟨(some 17), .mv, [.tmp 2], none⟩,
           ⟨(some 18), .bin .lss, [.tmp 17, .lit (.int .i64 0)], none⟩,
           ⟨(some 16), .mv, [.tmp 18], none⟩])
        (.cond (.tmp 16)
          (.seq (.region [⟨(some 6), .mv, [.lit (.int .i64 2)], none⟩])
           (.ret))
          (.seq (.region [⟨(some 20), .mv, [.tmp 1], none⟩,
              ⟨(some 19), .mv, [.tmp 20], none⟩])
           (.cond (.tmp 19)
             (.region [⟨(some 21), .mv, [.tmp 0], none⟩,
                ⟨(some 22), .mv, [.tmp 2], none⟩,
                ⟨(some 23), .nilCheck, [.tmp 21], none⟩,
                ⟨(some 24), .fieldAddr 3, [.tmp 23], none⟩,
                ⟨(some 25), .fieldAddr 1, [.tmp 24], none⟩,
                ⟨none, .store 1, [.tmp 25, .tmp 22], none⟩])
             (.region [⟨(some 7), .mv, [.tmp 0], none⟩,
                ⟨(some 8), .mv, [.tmp 2], none⟩,
                ⟨(some 9), .nilCheck, [.tmp 7], none⟩,
                ⟨(some 10), .fieldAddr 5, [.tmp 9], none⟩,
                ⟨(some 11), .fieldAddr 1, [.tmp 10], none⟩,
                ⟨none, .store 1, [.tmp 11, .tmp 8], none⟩]))))))))
   (.seq (.region [⟨(some 6), .mv, [.lit (.int .i64 0)], none⟩])
    (.ret)))⟩
theorem t14 : trFn Try.prog Try.f14 h14 = some c14 := by kernel_rfl

/-- (*pantry/swap.Device).Read -/
def h15 : List Hint := []
def c15 : AFn := ⟨25, [.tmp 4, .tmp 5],
  .seq (.region [⟨(some 4), .mv, [.lit .nilsl], none⟩,
     ⟨(some 5), .mv, [.lit (.int .i64 0)], none⟩])
  (.seq (.seq (.region [⟨(some 8), .mv, [.tmp 0], none⟩,
       ⟨(some 9), .mv, [.tmp 1], none⟩,
       ⟨(some 10), .callv, [.lit (.func 25 [] []), .tmp 8, .tmp 9, .lit (.bool true)], none⟩,
       ⟨(some 6), .mv, [.tmp 10], none⟩])
    (.seq (.region [⟨(some 11), .mv, [.tmp 6], none⟩,
        ⟨(some 12), .bin .neq, [.tmp 11, .lit (.int .i64 0)], none⟩])
     (.cond (.tmp 12)
       (.seq (.region [⟨(some 13), .mv, [.tmp 6], none⟩,
           ⟨(some 4), .mv, [.lit .nilsl], none⟩,
           ⟨(some 5), .mv, [.tmp 13], none⟩])
        (.ret))
       (.skip))))
   (.seq (.seq (.region [⟨(some 14), .mv, [.tmp 0], none⟩,
        ⟨(some 15), .nilCheck, [.tmp 14], none⟩,
        ⟨(some 16), .fieldAddr 5, [.tmp 15], none⟩,
        ⟨(some 17), .callv, [.lit (.func 26 [] []), .tmp 16], none⟩])
     (.cond (.tmp 17)
       (.seq (.region [⟨(some 4), .mv, [.lit .nilsl], none⟩,
           ⟨(some 5), .mv, [.lit (.int .i64 6)], none⟩])
        (.ret))
       (.skip)))
    (.seq (.region [⟨(some 18), .mv, [.tmp 0], none⟩,
        ⟨(some 19), .nilCheck, [.tmp 18], none⟩,
        ⟨(some 20), .fieldAddr 2, [.tmp 19], none⟩,
        ⟨(some 21), .load1, [.tmp 20], none⟩,
        ⟨(some 22), .mv, [.tmp 1], none⟩,
        ⟨(some 23), .lookup (.scal .int) (.bytes 4096 0) false, [.tmp 21, .tmp 22], none⟩,
        ⟨(some 7), .alloc 67 4096 (.bytes 4096 0), [], none⟩,
        ⟨none, .store 4096, [.tmp 7, .tmp 23], none⟩])
     (.seq (.region [⟨(some 24), .slicea 4096 1 false false false, [.tmp 7], none⟩,
         ⟨(some 4), .mv, [.tmp 24], none⟩,
         ⟨(some 5), .mv, [.lit (.int .i64 0)], none⟩])
      (.ret)))))⟩
theorem t15 : trFn Try.prog Try.f15 h15 = some c15 := by kernel_rfl

/-- pantry/pantryref01.Bytes -/
def h16 : List Hint := []
def c16 : AFn := ⟨10, [.tmp 4],
  .seq (.region [⟨(some 4), .mv, [.lit (.bool false)], none⟩])
  (.seq (.region [⟨(some 5), .mv, [.tmp 0], none⟩,
      ⟨(some 6), .tostr, [.tmp 5], none⟩,
      ⟨(some 7), .mv, [.tmp 1], none⟩,
      ⟨(some 8), .tostr, [.tmp 7], none⟩,
      ⟨(some 9), .eqv false (.scal .str), [.tmp 6, .tmp 8], none⟩,
      ⟨(some 4), .mv, [.tmp 9], none⟩])
   (.ret))⟩
theorem t16 : trFn Try.prog Try.f16 h16 = some c16 := by kernel_rfl

/-- (*pantry/swap.Device).Count -/
def h17 : List Hint := [.ord [(0, []), (1, []), (2, []), (3, []), (4, []), (5, []), (6, []), (7, []), (8, []), (9, []), (10, []), (11, [])] [[], [0], [1, 0], [2, 1, 0], [3, 2, 1, 0], [], [5], [6, 5], [7, 6, 5], [8, 7, 6, 5], [4, 0, 1, 2, 3], [9, 10, 0, 1, 2, 3, 4, 5, 6, 7, 8]]]
def c17 : AFn := ⟨17, [.tmp 2, .tmp 3],
  .seq (.region [⟨(some 2), .mv, [.lit (.int .i64 0)], none⟩,
     ⟨(some 3), .mv, [.lit (.int .i64 0)], none⟩])
  (.seq (.seq (.region [⟨(some 4), .mv, [.tmp 0], none⟩,
       ⟨(some 5), .callv, [.lit (.func 27 [] []), .tmp 4], none⟩,
       ⟨(some 6), .un .not, [.tmp 5], none⟩])
    (.cond (.tmp 6)
      (.seq (.region [⟨(some 2), .mv, [.lit (.int .i64 0)], none⟩,
          ⟨(some 3), .mv, [.lit (.int .i64 0)], none⟩])
       (.ret))
      (.skip)))
   (.seq (.draw (⟨0, ⟨(some 7), .mv, [.tmp 0], none⟩, []⟩ ::
       ⟨1, ⟨(some 8), .nilCheck, [.tmp 7], none⟩, []⟩ ::
       ⟨2, ⟨(some 9), .fieldAddr 3, [.tmp 8], none⟩, []⟩ ::
       ⟨3, ⟨(some 10), .fieldAddr 0, [.tmp 9], none⟩, []⟩ ::
       ⟨4, ⟨(some 11), .load1, [.tmp 10], none⟩, []⟩ ::
       ⟨5, ⟨(some 12), .mv, [.tmp 0], none⟩, []⟩ ::
       ⟨6, ⟨(some 13), .nilCheck, [.tmp 12], none⟩, []⟩ ::
       ⟨7, ⟨(some 14), .fieldAddr 5, [.tmp 13], none⟩, []⟩ ::
       ⟨8, ⟨(some 15), .fieldAddr 0, [.tmp 14], none⟩, []⟩ ::
       ⟨9, ⟨(some 16), .load1, [.tmp 15], none⟩, []⟩ ::
       ⟨10, ⟨(some 2), .mv, [.tmp 11], none⟩, []⟩ ::
       ⟨11, ⟨(some 3), .mv, [.tmp 16], none⟩, []⟩ ::
       []))
    (.ret)))⟩
theorem t17 : trFn Try.prog Try.f17 h17 = some c17 := by kernel_rfl

/-- (*pantry/swap.Device).Peek -/
def h18 : List Hint := []
def c18 : AFn := ⟨17, [.tmp 4],
  .seq (.region [⟨(some 4), .mv, [.lit .nilsl], none⟩])
  (.seq (.seq (.region [⟨(some 6), .mv, [.tmp 0], none⟩,
       ⟨(some 7), .mv, [.tmp 1], none⟩,
       ⟨(some 8), .callv, [.lit (.func 25 [] []), .tmp 6, .tmp 7, .lit (.bool true)], none⟩,
       ⟨(some 9), .bin .neq, [.tmp 8, .lit (.int .i64 0)], none⟩])
    (.cond (.tmp 9)
      (.seq (.region [⟨(some 4), .mv, [.lit .nilsl], none⟩])
       (.ret))
      (.skip)))
   (.seq (.region [⟨(some 10), .mv, [.tmp 0], none⟩,
       ⟨(some 11), .nilCheck, [.tmp 10], none⟩,
       ⟨(some 12), .fieldAddr 2, [.tmp 11], none⟩,
       ⟨(some 13), .load1, [.tmp 12], none⟩,
       ⟨(some 14), .mv, [.tmp 1], none⟩,
       ⟨(some 15), .lookup (.scal .int) (.bytes 4096 0) false, [.tmp 13, .tmp 14], none⟩,
       ⟨(some 5), .alloc 67 4096 (.bytes 4096 0), [], none⟩,
       ⟨none, .store 4096, [.tmp 5, .tmp 15], none⟩])
    (.seq (.region [⟨(some 16), .slicea 4096 1 false false false, [.tmp 5], none⟩,
        ⟨(some 4), .mv, [.tmp 16], none⟩])
     (.ret))))⟩
theorem t18 : trFn Try.prog Try.f18 h18 = some c18 := by kernel_rfl

/-- pantry/pantryref09.New -/
def h19 : List Hint := [.mask [true, false, false, true, true, false, false, false, false, false, false, false, false, false, false, false, false, false, false, false, false, false, false, false, false, false, false, false, false], .ord [(0, []), (1, []), (2, []), (3, []), (4, []), (5, [4]), (6, [4]), (7, []), (8, []), (9, []), (10, [])] [[], [], [1], [2, 1], [3, 2, 1], [], [5], [4, 6, 3, 2, 1, 5], [0, 1, 2, 3, 4, 5, 6, 7], [8, 0, 1, 2, 3, 4, 5, 6, 7], [9, 7, 0, 1, 2, 3, 4, 5, 6, 8]]]
def c19M0 : List Bool := [true, false, false, true, true, false, false, false, false, false, false, false, false, false, false, false, false, false, false, false, false, false, false, false, false, false, false, false, false]
def c19L0 : ACode :=
  .seq (.seq (.region [⟨(some 13), .mv, [.tmp 4], none⟩,
      ⟨(some 14), .mv, [.tmp 0], none⟩,
      ⟨(some 15), .bin .lss, [.tmp 13, .tmp 14], none⟩])
   (.cond (.tmp 15)
     (.skip)
     (.exit 0)))
  (.seq (.block 1 (.draw (⟨0, ⟨(some 18), .mv, [.tmp 3], none⟩, []⟩ ::
       ⟨1, ⟨(some 19), .mv, [.tmp 3], none⟩, []⟩ ::
       ⟨2, ⟨(some 20), .nilCheck, [.tmp 19], none⟩, []⟩ ::
       ⟨3, ⟨(some 21), .fieldAddr 0, [.tmp 20], none⟩, []⟩ ::
       ⟨4, ⟨(some 22), .load1, [.tmp 21], none⟩, []⟩ ::
       ⟨5, ⟨(some 23), .mkslice 5 1 1 (.bytes 1 0), [.lit (.int .i64 4096), .lit (.int .i64 4096)], none⟩, [(4, ⟨(some 22), .load1, [.tmp 21], none⟩)]⟩ ::
       ⟨6, ⟨(some 24), .bslice 27 1 1 (.vals [.nilsl]) [0], [.tmp 23], none⟩, [(4, ⟨(some 22), .load1, [.tmp 21], none⟩)]⟩ ::
       ⟨7, ⟨(some 25), .append 27 1 24 (.vals [.nilsl]), [.tmp 22, .tmp 24], none⟩, []⟩ ::
       ⟨8, ⟨(some 26), .nilCheck, [.tmp 18], none⟩, []⟩ ::
       ⟨9, ⟨(some 27), .fieldAddr 0, [.tmp 26], none⟩, []⟩ ::
       ⟨10, ⟨none, .store 1, [.tmp 27, .tmp 25], none⟩, []⟩ ::
       [])))
   (.region [⟨(some 16), .mv, [.tmp 4], none⟩,
      ⟨(some 17), .bin .add, [.tmp 16, .lit (.int .i64 1)], none⟩,
      ⟨(some 4), .mv, [.tmp 17], none⟩]))
def c19 : AFn := ⟨29, [.tmp 2],
  .seq (.region [⟨(some 2), .mv, [.lit .nilptr], none⟩])
  (.seq (.seq (.region [⟨(some 5), .mv, [.tmp 0], none⟩,
       ⟨(some 6), .bin .lss, [.tmp 5, .lit (.int .i64 0)], none⟩,
       ⟨(some 7), .mv, [.tmp 6], none⟩,
       ⟨(some 8), .mv, [.tmp 0], (some (7, false))⟩,
       ⟨(some 9), .bin .gtr, [.tmp 8, .lit (.int .i64 256)], (some (7, false))⟩,
       ⟨(some 10), .pick, [.tmp 7, .lit (.bool true), .tmp 9], none⟩])
    (.cond (.tmp 10)
      (.seq (.region [⟨(some 2), .mv, [.lit .nilptr], none⟩])
       (.ret))
      (.skip)))
   (.seq (.region [⟨(some 11), .build (.agg [.nilsl, (.int .i64 0), (.int .i64 0), (.int .i64 0), (.int .i64 0)]) [], [], none⟩,
       ⟨(some 12), .box 55 5, [.tmp 11], none⟩,
       ⟨(some 3), .mv, [.tmp 12], none⟩])
    (.seq (.seq (.region [⟨(some 4), .mv, [.lit (.int .i64 0)], none⟩])
      (.block 0 (.loop c19M0 c19L0)))
     (.seq (.region [⟨(some 28), .mv, [.tmp 3], none⟩,
         ⟨(some 2), .mv, [.tmp 28], none⟩])
      (.ret)))))⟩
theorem t19 : trFn Try.prog Try.f19 h19 = some c19 := by kernel_rfl

/-- (*pantry/pantryref09.Device).Write -/
def h20 : List Hint := [.ord [(0, []), (1, []), (2, []), (3, []), (4, []), (6, []), (5, [3]), (7, [3]), (8, []), (9, [])] [[], [0], [1, 0], [2, 1, 0], [], [], [], [5, 6], [3, 4, 0, 1, 2, 5, 6, 7], [8, 7, 0, 1, 2, 3, 4, 5, 6]]]
def c20 : AFn := ⟨43, [.tmp 6],
  .seq (.region [⟨(some 6), .mv, [.lit (.int .i64 0)], none⟩])
  (.seq (.seq (.region [⟨(some 7), .mv, [.tmp 1], none⟩,
       ⟨(some 8), .bin .lss, [.tmp 7, .lit (.int .i64 0)], none⟩,
       ⟨(some 9), .mv, [.tmp 8], none⟩,
       ⟨(some 10), .mv, [.tmp 1], (some (9, false))⟩,
       ⟨(some 11), .mv, [.tmp 0], (some (9, false))⟩,
       ⟨(some 12), .nilCheck, [.tmp 11], (some (9, false))⟩,
       ⟨(some 13), .fieldAddr 0, [.tmp 12], (some (9, false))⟩,
       ⟨(some 14), .load1, [.tmp 13], (some (9, false))⟩,
       ⟨(some 15), .lens, [.tmp 14], (some (9, false))⟩,
       ⟨(some 16), .bin .geq, [.tmp 10, .tmp 15], (some (9, false))⟩,
       ⟨(some 17), .pick, [.tmp 9, .lit (.bool true), .tmp 16], none⟩,
       ⟨(some 18), .mv, [.tmp 17], none⟩,
       ⟨(some 19), .mv, [.tmp 2], (some (18, false))⟩,
       ⟨(some 20), .lens, [.tmp 19], (some (18, false))⟩,
       ⟨(some 21), .bin .neq, [.tmp 20, .lit (.int .i64 4096)], (some (18, false))⟩,
       ⟨(some 22), .pick, [.tmp 18, .lit (.bool true), .tmp 21], none⟩])
    (.cond (.tmp 22)
      (.seq (.region [⟨(some 6), .mv, [.lit (.int .i64 2)], none⟩])
       (.ret))
      (.skip)))
   (.seq (.seq (.region [⟨(some 23), .mv, [.tmp 0], none⟩,
        ⟨(some 24), .callv, [.lit (.func 28 [] []), .tmp 23, .lit (.int .i64 1)], none⟩])
     (.cond (.tmp 24)
       (.seq (.region [⟨(some 6), .mv, [.lit (.int .i64 6)], none⟩])
        (.ret))
       (.skip)))
    (.seq (.region [⟨(some 25), .mv, [.tmp 0], none⟩,
        ⟨(some 26), .bslice 27 1 0 (.vals [.nilsl]) [], [], none⟩,
        ⟨(some 27), .mv, [.tmp 0], none⟩,
        ⟨(some 28), .nilCheck, [.tmp 27], none⟩,
        ⟨(some 29), .fieldAddr 0, [.tmp 28], none⟩,
        ⟨(some 30), .load1, [.tmp 29], none⟩,
        ⟨(some 31), .append 27 1 24 (.vals [.nilsl]), [.tmp 26, .tmp 30], none⟩,
        ⟨(some 32), .nilCheck, [.tmp 25], none⟩,
        ⟨(some 33), .fieldAddr 0, [.tmp 32], none⟩,
        ⟨none, .store 1, [.tmp 33, .tmp 31], none⟩])
     (.seq (.draw (⟨0, ⟨(some 34), .mv, [.tmp 0], none⟩, []⟩ ::
         ⟨1, ⟨(some 35), .nilCheck, [.tmp 34], none⟩, []⟩ ::
         ⟨2, ⟨(some 36), .fieldAddr 0, [.tmp 35], none⟩, []⟩ ::
         ⟨3, ⟨(some 37), .load1, [.tmp 36], none⟩, []⟩ ::
         ⟨4, ⟨(some 38), .mv, [.tmp 1], none⟩, []⟩ ::
         ⟨6, ⟨(some 40), .mv, [.tmp 2], none⟩, []⟩ ::
         ⟨5, ⟨(some 39), .bslice 5 1 0 (.bytes 1 0) [], [], none⟩, [(3, ⟨(some 37), .load1, [.tmp 36], none⟩)]⟩ ::
         ⟨7, ⟨(some 41), .append 5 1 1 (.bytes 1 0), [.tmp 39, .tmp 40], none⟩, [(3, ⟨(some 37), .load1, [.tmp 36], none⟩)]⟩ ::
         ⟨8, ⟨(some 42), .indexs 1, [.tmp 37, .tmp 38], none⟩, []⟩ ::
         ⟨9, ⟨none, .store 1, [.tmp 42, .tmp 41], none⟩, []⟩ ::
         []))
      (.seq (.region [⟨(some 6), .mv, [.lit (.int .i64 0)], none⟩])
       (.ret))))))⟩
theorem t20 : trFn Try.prog Try.f20 h20 = some c20 := by kernel_rfl

/-- (*pantry/pantryref09.Device).Read -/
def h21 : List Hint := []
def c21 : AFn := ⟨28, [.tmp 4, .tmp 5],
  .seq (.region [⟨(some 4), .mv, [.lit .nilsl], none⟩,
     ⟨(some 5), .mv, [.lit (.int .i64 0)], none⟩])
  (.seq (.seq (.region [⟨(some 6), .mv, [.tmp 1], none⟩,
       ⟨(some 7), .bin .lss, [.tmp 6, .lit (.int .i64 0)], none⟩,
       ⟨(some 8), .mv, [.tmp 7], none⟩,
       ⟨(some 9), .mv, [.tmp 1], (some (8, false))⟩,
       ⟨(some 10), .mv, [.tmp 0], (some (8, false))⟩,
       ⟨(some 11), .nilCheck, [.tmp 10], (some (8, false))⟩,
       ⟨(some 12), .fieldAddr 0, [.tmp 11], (some (8, false))⟩,
       ⟨(some 13), .load1, [.tmp 12], (some (8, false))⟩,
       ⟨(some 14), .lens, [.tmp 13], (some (8, false))⟩,
       ⟨(some 15), .bin .geq, [.tmp 9, .tmp 14], (some (8, false))⟩,
       ⟨(some 16), .pick, [.tmp 8, .lit (.bool true), .tmp 15], none⟩])
    (.cond (.tmp 16)
      (.seq (.region [⟨(some 4), .mv, [.lit .nilsl], none⟩,
          ⟨(some 5), .mv, [.lit (.int .i64 2)], none⟩])
       (.ret))
      (.skip)))
   (.seq (.seq (.region [⟨(some 17), .mv, [.tmp 0], none⟩,
        ⟨(some 18), .callv, [.lit (.func 28 [] []), .tmp 17, .lit (.int .i64 0)], none⟩])
     (.cond (.tmp 18)
       (.seq (.region [⟨(some 4), .mv, [.lit .nilsl], none⟩,
           ⟨(some 5), .mv, [.lit (.int .i64 6)], none⟩])
        (.ret))
       (.skip)))
    (.seq (.region [⟨(some 19), .bslice 5 1 0 (.bytes 1 0) [], [], none⟩,
        ⟨(some 20), .mv, [.tmp 0], none⟩,
        ⟨(some 21), .nilCheck, [.tmp 20], none⟩,
        ⟨(some 22), .fieldAddr 0, [.tmp 21], none⟩,
        ⟨(some 23), .load1, [.tmp 22], none⟩,
        ⟨(some 24), .mv, [.tmp 1], none⟩,
        ⟨(some 25), .indexs 1, [.tmp 23, .tmp 24], none⟩,
        ⟨(some 26), .load1, [.tmp 25], none⟩,
        ⟨(some 27), .append 5 1 1 (.bytes 1 0), [.tmp 19, .tmp 26], none⟩,
        ⟨(some 4), .mv, [.tmp 27], none⟩,
        ⟨(some 5), .mv, [.lit (.int .i64 0)], none⟩])
     (.ret))))⟩
theorem t21 : trFn Try.prog Try.f21 h21 = some c21 := by kernel_rfl

/-- (*pantry/pantryref09.Device).Plan -/
def h22 : List Hint := []
def c22 : AFn := ⟨20, [.tmp 6],
  .seq (.region [⟨(some 6), .mv, [.lit (.int .i64 0)], none⟩])
  (.seq (.seq (.region [⟨(some 7), .mv, [.tmp 2], none⟩,
       ⟨(some 8), .bin .lss, [.tmp 7, .lit (.int .i64 0)], none⟩])
    (.cond (.tmp 8)
      (.seq (.region [⟨(some 6), .mv, [.lit (.int .i64 2)], none⟩])
       (.ret))
      (.skip)))
   (.seq (.seq (.region [⟨(some 9), .mv, [.tmp 1], none⟩])
     (.cond (.tmp 9)
       (.region [⟨(some 10), .mv, [.tmp 0], none⟩,
          ⟨(some 11), .mv, [.tmp 2], none⟩,
          ⟨(some 12), .nilCheck, [.tmp 10], none⟩,
          ⟨(some 13), .fieldAddr 1, [.tmp 12], none⟩,
          ⟨(some 14), .indexa 2 1, [.tmp 13, .lit (.int .i64 1)], none⟩,
          ⟨none, .store 1, [.tmp 14, .tmp 11], none⟩])
       (.region [⟨(some 15), .mv, [.tmp 0], none⟩,
          ⟨(some 16), .mv, [.tmp 2], none⟩,
          ⟨(some 17), .nilCheck, [.tmp 15], none⟩,
          ⟨(some 18), .fieldAddr 1, [.tmp 17], none⟩,
          ⟨(some 19), .indexa 2 1, [.tmp 18, .lit (.int .i64 0)], none⟩,
          ⟨none, .store 1, [.tmp 19, .tmp 16], none⟩])))
    (.seq (.region [⟨(some 6), .mv, [.lit (.int .i64 0)], none⟩])
     (.ret))))⟩
theorem t22 : trFn Try.prog Try.f22 h22 = some c22 := by kernel_rfl

/-- (*pantry/pantryref09.Device).Peek -/
def h23 : List Hint := []
def c23 : AFn := ⟨25, [.tmp 4],
  .seq (.region [⟨(some 4), .mv, [.lit .nilsl], none⟩])
  (.seq (.seq (.region [⟨(some 5), .mv, [.tmp 1], none⟩,
       ⟨(some 6), .bin .lss, [.tmp 5, .lit (.int .i64 0)], none⟩,
       ⟨(some 7), .mv, [.tmp 6], none⟩,
       ⟨(some 8), .mv, [.tmp 1], (some (7, false))⟩,
       ⟨(some 9), .mv, [.tmp 0], (some (7, false))⟩,
       ⟨(some 10), .nilCheck, [.tmp 9], (some (7, false))⟩,
       ⟨(some 11), .fieldAddr 0, [.tmp 10], (some (7, false))⟩,
       ⟨(some 12), .load1, [.tmp 11], (some (7, false))⟩,
       ⟨(some 13), .lens, [.tmp 12], (some (7, false))⟩,
       ⟨(some 14), .bin .geq, [.tmp 8, .tmp 13], (some (7, false))⟩,
       ⟨(some 15), .pick, [.tmp 7, .lit (.bool true), .tmp 14], none⟩])
    (.cond (.tmp 15)
      (.seq (.region [⟨(some 4), .mv, [.lit .nilsl], none⟩])
       (.ret))
      (.skip)))
   (.seq (.region [⟨(some 16), .bslice 5 1 0 (.bytes 1 0) [], [], none⟩,
       ⟨(some 17), .mv, [.tmp 0], none⟩,
       ⟨(some 18), .nilCheck, [.tmp 17], none⟩,
       ⟨(some 19), .fieldAddr 0, [.tmp 18], none⟩,
       ⟨(some 20), .load1, [.tmp 19], none⟩,
       ⟨(some 21), .mv, [.tmp 1], none⟩,
       ⟨(some 22), .indexs 1, [.tmp 20, .tmp 21], none⟩,
       ⟨(some 23), .load1, [.tmp 22], none⟩,
       ⟨(some 24), .append 5 1 1 (.bytes 1 0), [.tmp 16, .tmp 23], none⟩,
       ⟨(some 4), .mv, [.tmp 24], none⟩])
    (.ret)))⟩
theorem t23 : trFn Try.prog Try.f23 h23 = some c23 := by kernel_rfl

/-- (*pantry/swap.Device).Places -/
def h24 : List Hint := []
def c24 : AFn := ⟨10, [.tmp 2],
  .seq (.region [⟨(some 2), .mv, [.lit (.int .i64 0)], none⟩])
  (.seq (.seq (.region [⟨(some 3), .mv, [.tmp 0], none⟩,
       ⟨(some 4), .callv, [.lit (.func 27 [] []), .tmp 3], none⟩,
       ⟨(some 5), .un .not, [.tmp 4], none⟩])
    (.cond (.tmp 5)
      (.seq (.region [⟨(some 2), .mv, [.lit (.int .i64 0)], none⟩])
       (.ret))
      (.skip)))
   (.seq (.region [⟨(some 6), .mv, [.tmp 0], none⟩,
       ⟨(some 7), .nilCheck, [.tmp 6], none⟩,
       ⟨(some 8), .fieldAddr 0, [.tmp 7], none⟩,
       ⟨(some 9), .load1, [.tmp 8], none⟩,
       ⟨(some 2), .mv, [.tmp 9], none⟩])
    (.ret)))⟩
theorem t24 : trFn Try.prog Try.f24 h24 = some c24 := by kernel_rfl

/-- (*pantry/swap.Device).may -/
def h25 : List Hint := []
def c25 : AFn := ⟨26, [.tmp 6],
  .seq (.region [⟨(some 6), .mv, [.lit (.int .i64 0)], none⟩])
  (.seq (.block 0 (.seq (.region [⟨(some 8), .mv, [.tmp 0], none⟩,
        ⟨(some 9), .callv, [.lit (.func 27 [] []), .tmp 8], none⟩,
        ⟨(some 10), .un .not, [.tmp 9], none⟩,
        ⟨(some 7), .mv, [.tmp 10], none⟩])
     (.cond (.tmp 7)
       (.seq (.region [⟨(some 6), .mv, [.lit (.int .i64 1)], none⟩])
        (.ret))
       (.seq (.region [⟨(some 12), .mv, [.tmp 1], none⟩,
           ⟨(some 13), .bin .lss, [.tmp 12, .lit (.int .i64 0)], none⟩,
           ⟨(some 14), .mv, [.tmp 13], none⟩,
           ⟨(some 15), .mv, [.tmp 1], (some (14, false))⟩,
           ⟨(some 16), .mv, [.tmp 0], (some (14, false))⟩,
           ⟨(some 17), .nilCheck, [.tmp 16], (some (14, false))⟩,
           ⟨(some 18), .fieldAddr 0, [.tmp 17], (some (14, false))⟩,
           ⟨(some 19), .load1, [.tmp 18], (some (14, false))⟩,
           ⟨(some 20), .bin .geq, [.tmp 15, .tmp 19], (some (14, false))⟩,
           ⟨(some 21), .pick, [.tmp 14, .lit (.bool true), .tmp 20], none⟩,
           ⟨(some 22), .mv, [.tmp 21], none⟩,
           ⟨(some 23), .mv, [.tmp 2], (some (22, false))⟩,
           ⟨(some 24), .un .not, [.tmp 23], (some (22, false))⟩,
           ⟨(some 25), .pick, [.tmp 22, .lit (.bool true), .tmp 24], none⟩,
           ⟨(some 11), .mv, [.tmp 25], none⟩])
        (.cond (.tmp 11)
          (.seq (.region [⟨(some 6), .mv, [.lit (.int .i64 2)], none⟩])
           (.ret))
          (.skip))))))
   (.seq (.region [⟨(some 6), .mv, [.lit (.int .i64 0)], none⟩])
    (.ret)))⟩
theorem t25 : trFn Try.prog Try.f25 h25 = some c25 := by kernel_rfl

/-- (*pantry/swap.plan).fails -/
def h26 : List Hint := []
def c26 : AFn := ⟨27, [.tmp 2],
  .seq (.region [⟨(some 2), .mv, [.lit (.bool false)], none⟩])
  (.seq (.region [⟨(some 3), .mv, [.tmp 0], none⟩,
      ⟨(some 4), .nilCheck, [.tmp 3], none⟩,
      ⟨(some 5), .fieldAddr 0, [.tmp 4], none⟩,
      ⟨(some 6), .load1, [.tmp 5], none⟩,
      ⟨(some 7), .bin .add, [.tmp 6, .lit (.int .i64 1)], none⟩,
      ⟨(some 8), .nilCheck, [.tmp 3], none⟩,
      ⟨(some 9), .fieldAddr 0, [.tmp 8], none⟩,
      ⟨none, .store 1, [.tmp 9, .tmp 7], none⟩])
   (.seq (.seq (.region [⟨(some 10), .mv, [.tmp 0], none⟩,
        ⟨(some 11), .nilCheck, [.tmp 10], none⟩,
        ⟨(some 12), .fieldAddr 1, [.tmp 11], none⟩,
        ⟨(some 13), .load1, [.tmp 12], none⟩,
        ⟨(some 14), .bin .eql, [.tmp 13, .lit (.int .i64 0)], none⟩])
     (.cond (.tmp 14)
       (.seq (.region [⟨(some 2), .mv, [.lit (.bool false)], none⟩])
        (.ret))
       (.skip)))
    (.seq (.region [⟨(some 15), .mv, [.tmp 0], none⟩,
        ⟨(some 16), .nilCheck, [.tmp 15], none⟩,
        ⟨(some 17), .fieldAddr 1, [.tmp 16], none⟩,
        ⟨(some 18), .load1, [.tmp 17], none⟩,
        ⟨(some 19), .bin .sub, [.tmp 18, .lit (.int .i64 1)], none⟩,
        ⟨(some 20), .nilCheck, [.tmp 15], none⟩,
        ⟨(some 21), .fieldAddr 1, [.tmp 20], none⟩,
        ⟨none, .store 1, [.tmp 21, .tmp 19], none⟩])
     (.seq (.region [⟨(some 22), .mv, [.tmp 0], none⟩,
         ⟨(some 23), .nilCheck, [.tmp 22], none⟩,
         ⟨(some 24), .fieldAddr 1, [.tmp 23], none⟩,
         ⟨(some 25), .load1, [.tmp 24], none⟩,
         ⟨(some 26), .bin .eql, [.tmp 25, .lit (.int .i64 0)], none⟩,
         ⟨(some 2), .mv, [.tmp 26], none⟩])
      (.ret)))))⟩
theorem t26 : trFn Try.prog Try.f26 h26 = some c26 := by kernel_rfl

/-- (*pantry/swap.Device).made -/
def h27 : List Hint := []
def c27 : AFn := ⟨11, [.tmp 2],
  .seq (.region [⟨(some 2), .mv, [.lit (.bool false)], none⟩])
  (.seq (.region [⟨(some 3), .mv, [.tmp 0], none⟩,
      ⟨(some 4), .eqv true .ptr, [.tmp 3, .lit .nilptr], none⟩,
      ⟨(some 5), .mv, [.tmp 4], none⟩,
      ⟨(some 6), .mv, [.tmp 0], (some (5, true))⟩,
      ⟨(some 7), .nilCheck, [.tmp 6], (some (5, true))⟩,
      ⟨(some 8), .fieldAddr 1, [.tmp 7], (some (5, true))⟩,
      ⟨(some 9), .load1, [.tmp 8], (some (5, true))⟩,
      ⟨(some 10), .pick, [.tmp 5, .tmp 9, .lit (.bool false)], none⟩,
      ⟨(some 2), .mv, [.tmp 10], none⟩])
   (.ret))⟩
theorem t27 : trFn Try.prog Try.f27 h27 = some c27 := by kernel_rfl

/-- (*pantry/pantryref09.Device).fails -/
def h28 : List Hint := [.ord [(0, []), (1, []), (2, []), (3, []), (4, []), (5, []), (6, []), (7, []), (8, []), (9, []), (10, [])] [[], [], [0], [2, 0], [3, 1, 2, 0], [4, 3, 1, 2, 0], [5, 4, 3, 1, 2, 0], [0], [7, 0], [8, 1, 0, 2, 3, 4, 5, 6, 7], [9, 6, 0, 1, 2, 3, 4, 5, 8, 7]], .ord [(0, []), (1, []), (2, []), (3, []), (4, []), (5, []), (6, []), (7, []), (8, []), (9, []), (10, [])] [[], [], [0], [2, 0], [3, 1, 2, 0], [4, 3, 1, 2, 0], [5, 4, 3, 1, 2, 0], [0], [7, 0], [8, 1, 0, 2, 3, 4, 5, 6, 7], [9, 6, 0, 1, 2, 3, 4, 5, 8, 7]]]
def c28 : AFn := ⟨39, [.tmp 4],
  .seq (.region [⟨(some 4), .mv, [.lit (.bool false)], none⟩])
  (.seq (.draw (⟨0, ⟨(some 5), .mv, [.tmp 0], none⟩, []⟩ ::
      ⟨1, ⟨(some 6), .mv, [.tmp 1], none⟩, []⟩ ::
      ⟨2, ⟨(some 7), .nilCheck, [.tmp 5], none⟩, []⟩ ::
      ⟨3, ⟨(some 8), .fieldAddr 3, [.tmp 7], none⟩, []⟩ ::
      ⟨4, ⟨(some 9), .indexa 2 1, [.tmp 8, .tmp 6], none⟩, []⟩ ::
      ⟨5, ⟨(some 10), .load1, [.tmp 9], none⟩, []⟩ ::
      ⟨6, ⟨(some 11), .bin .add, [.tmp 10, .lit (.int .i64 1)], none⟩, []⟩ ::
      ⟨7, ⟨(some 12), .nilCheck, [.tmp 5], none⟩, []⟩ ::
      ⟨8, ⟨(some 13), .fieldAddr 3, [.tmp 12], none⟩, []⟩ ::
      ⟨9, ⟨(some 14), .indexa 2 1, [.tmp 13, .tmp 6], none⟩, []⟩ ::
      ⟨10, ⟨none, .store 1, [.tmp 14, .tmp 11], none⟩, []⟩ ::
      []))
   (.seq (.seq (.region [⟨(some 15), .mv, [.tmp 0], none⟩,
        ⟨(some 16), .mv, [.tmp 1], none⟩,
        ⟨(some 17), .nilCheck, [.tmp 15], none⟩,
        ⟨(some 18), .fieldAddr 1, [.tmp 17], none⟩,
        ⟨(some 19), .indexa 2 1, [.tmp 18, .tmp 16], none⟩,
        ⟨(some 20), .load1, [.tmp 19], none⟩,
        ⟨(some 21), .bin .eql, [.tmp 20, .lit (.int .i64 0)], none⟩])
     (.cond (.tmp 21)
       (.seq (.region [⟨(some 4), .mv, [.lit (.bool false)], none⟩])
        (.ret))
       (.skip)))
    (.seq (.draw (⟨0, ⟨(some 22), .mv, [.tmp 0], none⟩, []⟩ ::
        ⟨1, ⟨(some 23), .mv, [.tmp 1], none⟩, []⟩ ::
        ⟨2, ⟨(some 24), .nilCheck, [.tmp 22], none⟩, []⟩ ::
        ⟨3, ⟨(some 25), .fieldAddr 1, [.tmp 24], none⟩, []⟩ ::
        ⟨4, ⟨(some 26), .indexa 2 1, [.tmp 25, .tmp 23], none⟩, []⟩ ::
        ⟨5, ⟨(some 27), .load1, [.tmp 26], none⟩, []⟩ ::
        ⟨6, ⟨(some 28), .bin .sub, [.tmp 27, .lit (.int .i64 1)], none⟩, []⟩ ::
        ⟨7, ⟨(some 29), .nilCheck, [.tmp 22], none⟩, []⟩ ::
        ⟨8, ⟨(some 30), .fieldAddr 1, [.tmp 29], none⟩, []⟩ ::
        ⟨9, ⟨(some 31), .indexa 2 1, [.tmp 30, .tmp 23], none⟩, []⟩ ::
        ⟨10, ⟨none, .store 1, [.tmp 31, .tmp 28], none⟩, []⟩ ::
        []))
     (.seq (.region [⟨(some 32), .mv, [.tmp 0], none⟩,
         ⟨(some 33), .mv, [.tmp 1], none⟩,
         ⟨(some 34), .nilCheck, [.tmp 32], none⟩,
         ⟨(some 35), .fieldAddr 1, [.tmp 34], none⟩,
         ⟨(some 36), .indexa 2 1, [.tmp 35, .tmp 33], none⟩,
         ⟨(some 37), .load1, [.tmp 36], none⟩,
         ⟨(some 38), .bin .eql, [.tmp 37, .lit (.int .i64 0)], none⟩,
         ⟨(some 4), .mv, [.tmp 38], none⟩])
      (.ret)))))⟩
theorem t28 : trFn Try.prog Try.f28 h28 = some c28 := by kernel_rfl

def tab : BT := (.node (.node (.node (.node (.node .leaf 2 c2 .leaf) 3 c3 (.node .leaf 4 c4 .leaf)) 5 c5 (.node (.node .leaf 6 c6 .leaf) 7 c7 .leaf)) 8 c8 (.node (.node (.node .leaf 9 c9 .leaf) 10 c10 (.node .leaf 11 c11 .leaf)) 12 c12 (.node (.node .leaf 13 c13 .leaf) 14 c14 .leaf))) 15 c15 (.node (.node (.node (.node .leaf 16 c16 .leaf) 17 c17 (.node .leaf 18 c18 .leaf)) 19 c19 (.node (.node .leaf 20 c20 .leaf) 21 c21 .leaf)) 22 c22 (.node (.node (.node .leaf 23 c23 .leaf) 24 c24 (.node .leaf 25 c25 .leaf)) 26 c26 (.node (.node .leaf 27 c27 .leaf) 28 c28 .leaf))))
theorem i2 : Is Try.prog 2 c2 := ⟨Try.f2, h2, Try.func2, t2, Try.call2⟩
theorem i3 : Is Try.prog 3 c3 := ⟨Try.f3, h3, Try.func3, t3, Try.call3⟩
theorem i4 : Is Try.prog 4 c4 := ⟨Try.f4, h4, Try.func4, t4, Try.call4⟩
theorem i5 : Is Try.prog 5 c5 := ⟨Try.f5, h5, Try.func5, t5, Try.call5⟩
theorem i6 : Is Try.prog 6 c6 := ⟨Try.f6, h6, Try.func6, t6, Try.call6⟩
theorem i7 : Is Try.prog 7 c7 := ⟨Try.f7, h7, Try.func7, t7, Try.call7⟩
theorem i8 : Is Try.prog 8 c8 := ⟨Try.f8, h8, Try.func8, t8, Try.call8⟩
theorem i9 : Is Try.prog 9 c9 := ⟨Try.f9, h9, Try.func9, t9, Try.call9⟩
theorem i10 : Is Try.prog 10 c10 := ⟨Try.f10, h10, Try.func10, t10, Try.call10⟩
theorem i11 : Is Try.prog 11 c11 := ⟨Try.f11, h11, Try.func11, t11, Try.call11⟩
theorem i12 : Is Try.prog 12 c12 := ⟨Try.f12, h12, Try.func12, t12, Try.call12⟩
theorem i13 : Is Try.prog 13 c13 := ⟨Try.f13, h13, Try.func13, t13, Try.call13⟩
theorem i14 : Is Try.prog 14 c14 := ⟨Try.f14, h14, Try.func14, t14, Try.call14⟩
theorem i15 : Is Try.prog 15 c15 := ⟨Try.f15, h15, Try.func15, t15, Try.call15⟩
theorem i16 : Is Try.prog 16 c16 := ⟨Try.f16, h16, Try.func16, t16, Try.call16⟩
theorem i17 : Is Try.prog 17 c17 := ⟨Try.f17, h17, Try.func17, t17, Try.call17⟩
theorem i18 : Is Try.prog 18 c18 := ⟨Try.f18, h18, Try.func18, t18, Try.call18⟩
theorem i19 : Is Try.prog 19 c19 := ⟨Try.f19, h19, Try.func19, t19, Try.call19⟩
theorem i20 : Is Try.prog 20 c20 := ⟨Try.f20, h20, Try.func20, t20, Try.call20⟩
theorem i21 : Is Try.prog 21 c21 := ⟨Try.f21, h21, Try.func21, t21, Try.call21⟩
theorem i22 : Is Try.prog 22 c22 := ⟨Try.f22, h22, Try.func22, t22, Try.call22⟩
theorem i23 : Is Try.prog 23 c23 := ⟨Try.f23, h23, Try.func23, t23, Try.call23⟩
theorem i24 : Is Try.prog 24 c24 := ⟨Try.f24, h24, Try.func24, t24, Try.call24⟩
theorem i25 : Is Try.prog 25 c25 := ⟨Try.f25, h25, Try.func25, t25, Try.call25⟩
theorem i26 : Is Try.prog 26 c26 := ⟨Try.f26, h26, Try.func26, t26, Try.call26⟩
theorem i27 : Is Try.prog 27 c27 := ⟨Try.f27, h27, Try.func27, t27, Try.call27⟩
theorem i28 : Is Try.prog 28 c28 := ⟨Try.f28, h28, Try.func28, t28, Try.call28⟩
theorem tabSound : AllB (Is Try.prog) tab := ⟨⟨⟨⟨⟨trivial, i2, trivial⟩, i3, ⟨trivial, i4, trivial⟩⟩, i5, ⟨⟨trivial, i6, trivial⟩, i7, trivial⟩⟩, i8, ⟨⟨⟨trivial, i9, trivial⟩, i10, ⟨trivial, i11, trivial⟩⟩, i12, ⟨⟨trivial, i13, trivial⟩, i14, trivial⟩⟩⟩, i15, ⟨⟨⟨⟨trivial, i16, trivial⟩, i17, ⟨trivial, i18, trivial⟩⟩, i19, ⟨⟨trivial, i20, trivial⟩, i21, trivial⟩⟩, i22, ⟨⟨⟨trivial, i23, trivial⟩, i24, ⟨trivial, i25, trivial⟩⟩, i26, ⟨⟨trivial, i27, trivial⟩, i28, trivial⟩⟩⟩⟩

end Go.Proofs.Ytjmocbadnclldaa

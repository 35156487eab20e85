/-
  Plain laws of flips are checked: a flip is undone, it is a rotation of the tree, and ways to fans have no detours.
  They hold for at most eight corners.
-/
import Derived.Test.YtbicfognbbeigaaGreatH18
import Derived.Test.YtbicfognbbeigaaGreatH22
import Derived.Test.YtbicfognbbeigaaGreatH26
import Derived.Test.YtbicfognbbeigaaGreatH0
import Derived.Test.YtbicfognbbeigaaGreatH4
import Derived.Test.YtbicfognbbeigaaGreatGZ
set_option linter.unusedVariables false
set_option linter.unusedSimpArgs false
namespace Go.Proofs.YtbicfognbbeigaaGreat
open Go.Proofs.YtbicfognbbeigaaGreat.Ab Go.Proofs.YtbicfognbbeigaaGreat.Pl

set_option maxRecDepth 100000
def dhT : Nat → List (List (List Int))
  | 0 => [[]]
  | 1 => [[]]
  | 2 => [[[0, 2]], [[1, 3]]]
  | 3 => [[[0, 2], [0, 3]], [[0, 3], [1, 3]], [[0, 2], [2, 4]], [[1, 3], [1, 4]], [[1, 4], [2, 4]]]
  | 4 => [[[0, 2], [0, 3], [0, 4]], [[0, 3], [0, 4], [1, 3]], [[0, 2], [0, 4], [2, 4]], [[0, 2], [0, 3], [3, 5]], [[0, 4], [1, 3], [1, 4]], [[0, 4], [1, 4], [2, 4]], [[0, 3], [1, 3], [3, 5]], [[0, 2], [2, 4], [2, 5]], [[0, 2], [2, 5], [3, 5]], [[1, 3], [1, 4], [1, 5]], [[1, 4], [1, 5], [2, 4]], [[1, 3], [1, 5], [3, 5]], [[1, 5], [2, 4], [2, 5]], [[1, 5], [2, 5], [3, 5]]]
  | 5 => [[[0, 2], [0, 3], [0, 4], [0, 5]], [[0, 3], [0, 4], [0, 5], [1, 3]], [[0, 2], [0, 4], [0, 5], [2, 4]], [[0, 2], [0, 3], [0, 5], [3, 5]], [[0, 2], [0, 3], [0, 4], [4, 6]], [[0, 4], [0, 5], [1, 3], [1, 4]], [[0, 4], [0, 5], [1, 4], [2, 4]], [[0, 3], [0, 5], [1, 3], [3, 5]], [[0, 3], [0, 4], [1, 3], [4, 6]], [[0, 2], [0, 5], [2, 4], [2, 5]], [[0, 2], [0, 5], [2, 5], [3, 5]], [[0, 2], [0, 4], [2, 4], [4, 6]], [[0, 2], [0, 3], [3, 5], [3, 6]], [[0, 2], [0, 3], [3, 6], [4, 6]], [[0, 5], [1, 3], [1, 4], [1, 5]], [[0, 5], [1, 4], [1, 5], [2, 4]], [[0, 5], [1, 3], [1, 5], [3, 5]], [[0, 4], [1, 3], [1, 4], [4, 6]], [[0, 5], [1, 5], [2, 4], [2, 5]], [[0, 5], [1, 5], [2, 5], [3, 5]], [[0, 4], [1, 4], [2, 4], [4, 6]], [[0, 3], [1, 3], [3, 5], [3, 6]], [[0, 3], [1, 3], [3, 6], [4, 6]], [[0, 2], [2, 4], [2, 5], [2, 6]], [[0, 2], [2, 5], [2, 6], [3, 5]], [[0, 2], [2, 4], [2, 6], [4, 6]], [[0, 2], [2, 6], [3, 5], [3, 6]], [[0, 2], [2, 6], [3, 6], [4, 6]], [[1, 3], [1, 4], [1, 5], [1, 6]], [[1, 4], [1, 5], [1, 6], [2, 4]], [[1, 3], [1, 5], [1, 6], [3, 5]], [[1, 3], [1, 4], [1, 6], [4, 6]], [[1, 5], [1, 6], [2, 4], [2, 5]], [[1, 5], [1, 6], [2, 5], [3, 5]], [[1, 4], [1, 6], [2, 4], [4, 6]], [[1, 3], [1, 6], [3, 5], [3, 6]], [[1, 3], [1, 6], [3, 6], [4, 6]], [[1, 6], [2, 4], [2, 5], [2, 6]], [[1, 6], [2, 5], [2, 6], [3, 5]], [[1, 6], [2, 4], [2, 6], [4, 6]], [[1, 6], [2, 6], [3, 5], [3, 6]], [[1, 6], [2, 6], [3, 6], [4, 6]]]
  | 6 => [[[0, 2], [0, 3], [0, 4], [0, 5], [0, 6]], [[0, 3], [0, 4], [0, 5], [0, 6], [1, 3]], [[0, 2], [0, 4], [0, 5], [0, 6], [2, 4]], [[0, 2], [0, 3], [0, 5], [0, 6], [3, 5]], [[0, 2], [0, 3], [0, 4], [0, 6], [4, 6]], [[0, 2], [0, 3], [0, 4], [0, 5], [5, 7]], [[0, 4], [0, 5], [0, 6], [1, 3], [1, 4]], [[0, 4], [0, 5], [0, 6], [1, 4], [2, 4]], [[0, 3], [0, 5], [0, 6], [1, 3], [3, 5]], [[0, 3], [0, 4], [0, 6], [1, 3], [4, 6]], [[0, 3], [0, 4], [0, 5], [1, 3], [5, 7]], [[0, 2], [0, 5], [0, 6], [2, 4], [2, 5]], [[0, 2], [0, 5], [0, 6], [2, 5], [3, 5]], [[0, 2], [0, 4], [0, 6], [2, 4], [4, 6]], [[0, 2], [0, 4], [0, 5], [2, 4], [5, 7]], [[0, 2], [0, 3], [0, 6], [3, 5], [3, 6]], [[0, 2], [0, 3], [0, 6], [3, 6], [4, 6]], [[0, 2], [0, 3], [0, 5], [3, 5], [5, 7]], [[0, 2], [0, 3], [0, 4], [4, 6], [4, 7]], [[0, 2], [0, 3], [0, 4], [4, 7], [5, 7]], [[0, 5], [0, 6], [1, 3], [1, 4], [1, 5]], [[0, 5], [0, 6], [1, 4], [1, 5], [2, 4]], [[0, 5], [0, 6], [1, 3], [1, 5], [3, 5]], [[0, 4], [0, 6], [1, 3], [1, 4], [4, 6]], [[0, 4], [0, 5], [1, 3], [1, 4], [5, 7]], [[0, 5], [0, 6], [1, 5], [2, 4], [2, 5]], [[0, 5], [0, 6], [1, 5], [2, 5], [3, 5]], [[0, 4], [0, 6], [1, 4], [2, 4], [4, 6]], [[0, 4], [0, 5], [1, 4], [2, 4], [5, 7]], [[0, 3], [0, 6], [1, 3], [3, 5], [3, 6]], [[0, 3], [0, 6], [1, 3], [3, 6], [4, 6]], [[0, 3], [0, 5], [1, 3], [3, 5], [5, 7]], [[0, 3], [0, 4], [1, 3], [4, 6], [4, 7]], [[0, 3], [0, 4], [1, 3], [4, 7], [5, 7]], [[0, 2], [0, 6], [2, 4], [2, 5], [2, 6]], [[0, 2], [0, 6], [2, 5], [2, 6], [3, 5]], [[0, 2], [0, 6], [2, 4], [2, 6], [4, 6]], [[0, 2], [0, 5], [2, 4], [2, 5], [5, 7]], [[0, 2], [0, 6], [2, 6], [3, 5], [3, 6]], [[0, 2], [0, 6], [2, 6], [3, 6], [4, 6]], [[0, 2], [0, 5], [2, 5], [3, 5], [5, 7]], [[0, 2], [0, 4], [2, 4], [4, 6], [4, 7]], [[0, 2], [0, 4], [2, 4], [4, 7], [5, 7]], [[0, 2], [0, 3], [3, 5], [3, 6], [3, 7]], [[0, 2], [0, 3], [3, 6], [3, 7], [4, 6]], [[0, 2], [0, 3], [3, 5], [3, 7], [5, 7]], [[0, 2], [0, 3], [3, 7], [4, 6], [4, 7]], [[0, 2], [0, 3], [3, 7], [4, 7], [5, 7]], [[0, 6], [1, 3], [1, 4], [1, 5], [1, 6]], [[0, 6], [1, 4], [1, 5], [1, 6], [2, 4]], [[0, 6], [1, 3], [1, 5], [1, 6], [3, 5]], [[0, 6], [1, 3], [1, 4], [1, 6], [4, 6]], [[0, 5], [1, 3], [1, 4], [1, 5], [5, 7]], [[0, 6], [1, 5], [1, 6], [2, 4], [2, 5]], [[0, 6], [1, 5], [1, 6], [2, 5], [3, 5]], [[0, 6], [1, 4], [1, 6], [2, 4], [4, 6]], [[0, 5], [1, 4], [1, 5], [2, 4], [5, 7]], [[0, 6], [1, 3], [1, 6], [3, 5], [3, 6]], [[0, 6], [1, 3], [1, 6], [3, 6], [4, 6]], [[0, 5], [1, 3], [1, 5], [3, 5], [5, 7]], [[0, 4], [1, 3], [1, 4], [4, 6], [4, 7]], [[0, 4], [1, 3], [1, 4], [4, 7], [5, 7]], [[0, 6], [1, 6], [2, 4], [2, 5], [2, 6]], [[0, 6], [1, 6], [2, 5], [2, 6], [3, 5]], [[0, 6], [1, 6], [2, 4], [2, 6], [4, 6]], [[0, 5], [1, 5], [2, 4], [2, 5], [5, 7]], [[0, 6], [1, 6], [2, 6], [3, 5], [3, 6]], [[0, 6], [1, 6], [2, 6], [3, 6], [4, 6]], [[0, 5], [1, 5], [2, 5], [3, 5], [5, 7]], [[0, 4], [1, 4], [2, 4], [4, 6], [4, 7]], [[0, 4], [1, 4], [2, 4], [4, 7], [5, 7]], [[0, 3], [1, 3], [3, 5], [3, 6], [3, 7]], [[0, 3], [1, 3], [3, 6], [3, 7], [4, 6]], [[0, 3], [1, 3], [3, 5], [3, 7], [5, 7]], [[0, 3], [1, 3], [3, 7], [4, 6], [4, 7]], [[0, 3], [1, 3], [3, 7], [4, 7], [5, 7]], [[0, 2], [2, 4], [2, 5], [2, 6], [2, 7]], [[0, 2], [2, 5], [2, 6], [2, 7], [3, 5]], [[0, 2], [2, 4], [2, 6], [2, 7], [4, 6]], [[0, 2], [2, 4], [2, 5], [2, 7], [5, 7]], [[0, 2], [2, 6], [2, 7], [3, 5], [3, 6]], [[0, 2], [2, 6], [2, 7], [3, 6], [4, 6]], [[0, 2], [2, 5], [2, 7], [3, 5], [5, 7]], [[0, 2], [2, 4], [2, 7], [4, 6], [4, 7]], [[0, 2], [2, 4], [2, 7], [4, 7], [5, 7]], [[0, 2], [2, 7], [3, 5], [3, 6], [3, 7]], [[0, 2], [2, 7], [3, 6], [3, 7], [4, 6]], [[0, 2], [2, 7], [3, 5], [3, 7], [5, 7]], [[0, 2], [2, 7], [3, 7], [4, 6], [4, 7]], [[0, 2], [2, 7], [3, 7], [4, 7], [5, 7]], [[1, 3], [1, 4], [1, 5], [1, 6], [1, 7]], [[1, 4], [1, 5], [1, 6], [1, 7], [2, 4]], [[1, 3], [1, 5], [1, 6], [1, 7], [3, 5]], [[1, 3], [1, 4], [1, 6], [1, 7], [4, 6]], [[1, 3], [1, 4], [1, 5], [1, 7], [5, 7]], [[1, 5], [1, 6], [1, 7], [2, 4], [2, 5]], [[1, 5], [1, 6], [1, 7], [2, 5], [3, 5]], [[1, 4], [1, 6], [1, 7], [2, 4], [4, 6]], [[1, 4], [1, 5], [1, 7], [2, 4], [5, 7]], [[1, 3], [1, 6], [1, 7], [3, 5], [3, 6]], [[1, 3], [1, 6], [1, 7], [3, 6], [4, 6]], [[1, 3], [1, 5], [1, 7], [3, 5], [5, 7]], [[1, 3], [1, 4], [1, 7], [4, 6], [4, 7]], [[1, 3], [1, 4], [1, 7], [4, 7], [5, 7]], [[1, 6], [1, 7], [2, 4], [2, 5], [2, 6]], [[1, 6], [1, 7], [2, 5], [2, 6], [3, 5]], [[1, 6], [1, 7], [2, 4], [2, 6], [4, 6]], [[1, 5], [1, 7], [2, 4], [2, 5], [5, 7]], [[1, 6], [1, 7], [2, 6], [3, 5], [3, 6]], [[1, 6], [1, 7], [2, 6], [3, 6], [4, 6]], [[1, 5], [1, 7], [2, 5], [3, 5], [5, 7]], [[1, 4], [1, 7], [2, 4], [4, 6], [4, 7]], [[1, 4], [1, 7], [2, 4], [4, 7], [5, 7]], [[1, 3], [1, 7], [3, 5], [3, 6], [3, 7]], [[1, 3], [1, 7], [3, 6], [3, 7], [4, 6]], [[1, 3], [1, 7], [3, 5], [3, 7], [5, 7]], [[1, 3], [1, 7], [3, 7], [4, 6], [4, 7]], [[1, 3], [1, 7], [3, 7], [4, 7], [5, 7]], [[1, 7], [2, 4], [2, 5], [2, 6], [2, 7]], [[1, 7], [2, 5], [2, 6], [2, 7], [3, 5]], [[1, 7], [2, 4], [2, 6], [2, 7], [4, 6]], [[1, 7], [2, 4], [2, 5], [2, 7], [5, 7]], [[1, 7], [2, 6], [2, 7], [3, 5], [3, 6]], [[1, 7], [2, 6], [2, 7], [3, 6], [4, 6]], [[1, 7], [2, 5], [2, 7], [3, 5], [5, 7]], [[1, 7], [2, 4], [2, 7], [4, 6], [4, 7]], [[1, 7], [2, 4], [2, 7], [4, 7], [5, 7]], [[1, 7], [2, 7], [3, 5], [3, 6], [3, 7]], [[1, 7], [2, 7], [3, 6], [3, 7], [4, 6]], [[1, 7], [2, 7], [3, 5], [3, 7], [5, 7]], [[1, 7], [2, 7], [3, 7], [4, 6], [4, 7]], [[1, 7], [2, 7], [3, 7], [4, 7], [5, 7]]]
  | _ => []
def fhT : Nat → List (List Nat)
  | 0 => [[]]
  | 1 => [[]]
  | 2 => [[1], [0]]
  | 3 => [[1, 2], [3, 0], [4, 0], [4, 1], [2, 3]]
  | 4 => [[1, 2, 3], [4, 6, 0], [5, 7, 0], [6, 8, 0], [9, 5, 1], [10, 2, 4], [11, 3, 1], [12, 8, 2], [13, 3, 7], [10, 11, 4], [12, 5, 9], [13, 6, 9], [7, 13, 10], [8, 11, 12]]
  | 5 => [[1, 2, 3, 4], [5, 7, 8, 0], [6, 9, 11, 0], [7, 10, 12, 0], [8, 11, 13, 0], [14, 17, 6, 1], [15, 20, 2, 5], [16, 21, 3, 1], [17, 22, 4, 1], [18, 23, 10, 2], [19, 24, 3, 9], [20, 25, 4, 2], [21, 26, 13, 3], [22, 27, 4, 12], [28, 15, 16, 5], [29, 18, 6, 14], [30, 19, 7, 14], [31, 20, 8, 5], [32, 9, 19, 15], [33, 10, 16, 18], [34, 11, 17, 6], [35, 12, 22, 7], [36, 13, 8, 21], [37, 24, 25, 9], [38, 26, 10, 23], [39, 27, 11, 23], [40, 12, 27, 24], [41, 13, 25, 26], [29, 30, 31, 14], [32, 34, 15, 28], [33, 35, 16, 28], [34, 36, 17, 28], [37, 18, 33, 29], [38, 19, 30, 32], [39, 20, 31, 29], [40, 21, 36, 30], [41, 22, 31, 35], [23, 38, 39, 32], [24, 40, 33, 37], [25, 41, 34, 37], [26, 35, 41, 38], [27, 36, 39, 40]]
  | 6 => [[1, 2, 3, 4, 5], [6, 8, 9, 10, 0], [7, 11, 13, 14, 0], [8, 12, 15, 17, 0], [9, 13, 16, 18, 0], [10, 14, 17, 19, 0], [20, 23, 24, 7, 1], [21, 27, 28, 2, 6], [22, 29, 31, 3, 1], [23, 30, 32, 4, 1], [24, 31, 33, 5, 1], [25, 34, 37, 12, 2], [26, 35, 40, 3, 11], [27, 36, 41, 4, 2], [28, 37, 42, 5, 2], [29, 38, 43, 16, 3], [30, 39, 44, 4, 15], [31, 40, 45, 5, 3], [32, 41, 46, 19, 4], [33, 42, 47, 5, 18], [48, 52, 21, 22, 6], [49, 56, 25, 7, 20], [50, 59, 26, 8, 20], [51, 60, 27, 9, 6], [52, 61, 28, 10, 6], [53, 65, 11, 26, 21], [54, 68, 12, 22, 25], [55, 69, 13, 23, 7], [56, 70, 14, 24, 7], [57, 71, 15, 30, 8], [58, 72, 16, 9, 29], [59, 73, 17, 10, 8], [60, 74, 18, 33, 9], [61, 75, 19, 10, 32], [62, 76, 35, 36, 11], [63, 77, 38, 12, 34], [64, 78, 39, 13, 34], [65, 79, 40, 14, 11], [66, 80, 15, 39, 35], [67, 81, 16, 36, 38], [68, 82, 17, 37, 12], [69, 83, 18, 42, 13], [70, 84, 19, 14, 41], [71, 85, 44, 45, 15], [72, 86, 46, 16, 43], [73, 87, 47, 17, 43], [74, 88, 18, 47, 44], [75, 89, 19, 45, 46], [90, 49, 50, 51, 20], [91, 53, 55, 21, 48], [92, 54, 57, 22, 48], [93, 55, 58, 23, 48], [94, 56, 59, 24, 20], [95, 62, 25, 54, 49], [96, 63, 26, 50, 53], [97, 64, 27, 51, 49], [98, 65, 28, 52, 21], [99, 66, 29, 58, 50], [100, 67, 30, 51, 57], [101, 68, 31, 52, 22], [102, 69, 32, 61, 23], [103, 70, 33, 24, 60], [104, 34, 63, 64, 53], [105, 35, 66, 54, 62], [106, 36, 67, 55, 62], [107, 37, 68, 56, 25], [108, 38, 57, 67, 63], [109, 39, 58, 64, 66], [110, 40, 59, 65, 26], [111, 41, 60, 70, 27], [112, 42, 61, 28, 69], [113, 43, 72, 73, 29], [114, 44, 74, 30, 71], [115, 45, 75, 31, 71], [116, 46, 32, 75, 72], [117, 47, 33, 73, 74], [118, 77, 78, 79, 34], [119, 80, 82, 35, 76], [120, 81, 83, 36, 76], [121, 82, 84, 37, 76], [122, 85, 38, 81, 77], [123, 86, 39, 78, 80], [124, 87, 40, 79, 77], [125, 88, 41, 84, 78], [126, 89, 42, 79, 83], [127, 43, 86, 87, 80], [128, 44, 88, 81, 85], [129, 45, 89, 82, 85], [130, 46, 83, 89, 86], [131, 47, 84, 87, 88], [91, 92, 93, 94, 48], [95, 97, 98, 49, 90], [96, 99, 101, 50, 90], [97, 100, 102, 51, 90], [98, 101, 103, 52, 90], [104, 107, 53, 96, 91], [105, 110, 54, 92, 95], [106, 111, 55, 93, 91], [107, 112, 56, 94, 91], [108, 113, 57, 100, 92], [109, 114, 58, 93, 99], [110, 115, 59, 94, 92], [111, 116, 60, 103, 93], [112, 117, 61, 94, 102], [118, 62, 105, 106, 95], [119, 63, 108, 96, 104], [120, 64, 109, 97, 104], [121, 65, 110, 98, 95], [122, 66, 99, 109, 105], [123, 67, 100, 106, 108], [124, 68, 101, 107, 96], [125, 69, 102, 112, 97], [126, 70, 103, 98, 111], [127, 71, 114, 115, 99], [128, 72, 116, 100, 113], [129, 73, 117, 101, 113], [130, 74, 102, 117, 114], [131, 75, 103, 115, 116], [76, 119, 120, 121, 104], [77, 122, 124, 105, 118], [78, 123, 125, 106, 118], [79, 124, 126, 107, 118], [80, 127, 108, 123, 119], [81, 128, 109, 120, 122], [82, 129, 110, 121, 119], [83, 130, 111, 126, 120], [84, 131, 112, 121, 125], [85, 113, 128, 129, 122], [86, 114, 130, 123, 127], [87, 115, 131, 124, 127], [88, 116, 125, 131, 128], [89, 117, 126, 129, 130]]
  | _ => []
def chT (n : Nat) : Nat := [1, 1, 2, 5, 14, 42, 132].getD n 0
def dh (n a : Nat) : List (List Int) := (dhT n).getD a []
def fh (n a : Nat) : List Nat := (fhT n).getD a []
def eqR : List Int → List Int → Bool
  | [], [] => true
  | x :: l, y :: m => decide (x = y) && eqR l m
  | _, _ => false
def eqRs : List (List Int) → List (List Int) → Bool
  | [], [] => true
  | x :: l, y :: m => eqR x y && eqRs l m
  | _, _ => false
def eqRss : List (List (List Int)) → List (List (List Int)) → Bool
  | [], [] => true
  | x :: l, y :: m => eqRs x y && eqRss l m
  | _, _ => false
theorem eqR_eq : ∀ {l m : List Int}, eqR l m = true → l = m
  | [], [], _ => rfl
  | x :: l, y :: m, h => by
    unfold eqR at h
    rw [Bool.and_eq_true] at h
    rw [of_decide_eq_true h.1, eqR_eq h.2]
  | [], y :: m, h => by cases h
  | x :: l, [], h => by cases h
theorem eqRs_eq : ∀ {l m : List (List Int)}, eqRs l m = true → l = m
  | [], [], _ => rfl
  | x :: l, y :: m, h => by
    unfold eqRs at h
    rw [Bool.and_eq_true] at h
    rw [eqR_eq h.1, eqRs_eq h.2]
  | [], y :: m, h => by cases h
  | x :: l, [], h => by cases h
theorem eqRss_eq : ∀ {l m : List (List (List Int))}, eqRss l m = true → l = m
  | [], [], _ => rfl
  | x :: l, y :: m, h => by
    unfold eqRss at h
    rw [Bool.and_eq_true] at h
    rw [eqRs_eq h.1, eqRss_eq h.2]
  | [], y :: m, h => by cases h
  | x :: l, [], h => by cases h

/-! triangulations by their numbers -/
def triH (n : Nat) (f : List (List Int)) : Bool := (dhT (n - 2)).any (eqRs f)
noncomputable def triHC (n : Nat) (r : List Nat) : Bool := triH n (r.reverse.map decR)
theorem triH_low : allR (fun n => allC (triHC n) (n - 3) [] (candC n)) [2, 3, 4, 5, 6, 7] = true := by decide +kernel
theorem triH_eight : allC (triHC 8) 5 [] (candC 8) = true := by decide +kernel
theorem triH_fine {n : Nat} (h : 2 ≤ n ∧ n ≤ 8) : allC (triHC n) (n - 3) [] (candC n) = true := by
  by_cases c : n ≤ 7
  · exact allR_all triH_low n (by simp; omega)
  · rw [show n = 8 by omega]; exact triH_eight
theorem dhT_fine : (List.range 7).all (fun n => (dhT n).length == chT n) = true := by decide +kernel
theorem tri_h {N : Nat} {f : List (List Int)} (h : isTri N f = true) (h8 : N ≤ 8) : ∃ i, i < chT (N - 2) ∧ f = dh (N - 2) i := by
  have n2 := (tri_size h).1
  have c : triHC N ((f.map encR).reverse) = true := (isTri_codes h).all (triH_fine (by omega))
  unfold triHC at c
  rw [List.reverse_reverse, map_dec h] at c
  obtain ⟨g, hg, e⟩ := List.any_eq_true.1 c
  obtain ⟨i, hi, rfl⟩ := List.getElem_of_mem hg
  have l := beq_iff_eq.1 (List.all_eq_true.1 dhT_fine (N - 2) (List.mem_range.2 (by omega)))
  refine ⟨i, by omega, ?_⟩
  rw [eqRs_eq e]
  unfold dh
  simp only [List.getD, List.getElem?_eq_getElem hi, Option.getD_some]
def numH (n a : Nat) : Bool := isTri ((n + 2 : Nat) : Int) (dh n a) && (eqB (treeT (dh n a) 10 0 (n + 1)) (tr n a) && (eqRss ((List.range (dh n a).length).map (flipR (n + 2) (dh n a))) ((fh n a).map (dh n)) && ((fh n a).all (fun b => decide (b < chT n) && ((fh n b).any (Nat.beq a) && (nbrs (tr n a)).any (eqB (tr n b)))) && (decide ((dh n a).length = n - 1) && decide ((tr n a).size ≤ 6)))))
theorem numH_low : (List.range 6).all (fun n => (List.range (chT n)).all (numH n)) = true := by decide +kernel
theorem numH_0 : (List.range 22).all (fun a => numH 6 (0 + a)) = true := by decide +kernel
theorem numH_1 : (List.range 22).all (fun a => numH 6 (22 + a)) = true := by decide +kernel
theorem numH_2 : (List.range 22).all (fun a => numH 6 (44 + a)) = true := by decide +kernel
theorem numH_3 : (List.range 22).all (fun a => numH 6 (66 + a)) = true := by decide +kernel
theorem numH_4 : (List.range 22).all (fun a => numH 6 (88 + a)) = true := by decide +kernel
theorem numH_5 : (List.range 22).all (fun a => numH 6 (110 + a)) = true := by decide +kernel
theorem numH_at {n a : Nat} (hn : n ≤ 6) (ha : a < chT n) : numH n a = true := by
  by_cases h : n < 6
  · exact List.all_eq_true.1 (List.all_eq_true.1 numH_low n (List.mem_range.2 h)) a (List.mem_range.2 ha)
  · obtain rfl : n = 6 := by omega
    have ha : a < 132 := ha
    by_cases h0 : a < 22
    · have := List.all_eq_true.1 numH_0 (a - 0) (List.mem_range.2 (by omega))
      rwa [show 0 + (a - 0) = a by omega] at this
    by_cases h1 : a < 44
    · have := List.all_eq_true.1 numH_1 (a - 22) (List.mem_range.2 (by omega))
      rwa [show 22 + (a - 22) = a by omega] at this
    by_cases h2 : a < 66
    · have := List.all_eq_true.1 numH_2 (a - 44) (List.mem_range.2 (by omega))
      rwa [show 44 + (a - 44) = a by omega] at this
    by_cases h3 : a < 88
    · have := List.all_eq_true.1 numH_3 (a - 66) (List.mem_range.2 (by omega))
      rwa [show 66 + (a - 66) = a by omega] at this
    by_cases h4 : a < 110
    · have := List.all_eq_true.1 numH_4 (a - 88) (List.mem_range.2 (by omega))
      rwa [show 88 + (a - 88) = a by omega] at this
    by_cases h5 : a < 132
    · have := List.all_eq_true.1 numH_5 (a - 110) (List.mem_range.2 (by omega))
      rwa [show 110 + (a - 110) = a by omega] at this
    omega
structure NumH (n a : Nat) : Prop where
  tri : isTri ((n + 2 : Nat) : Int) (dh n a) = true
  tree : treeT (dh n a) 10 0 (n + 1) = tr n a
  flips : (List.range (dh n a).length).map (flipR (n + 2) (dh n a)) = (fh n a).map (dh n)
  lt : ∀ b ∈ fh n a, b < chT n
  back : ∀ b ∈ fh n a, a ∈ fh n b
  turn : ∀ b ∈ fh n a, tr n b ∈ nbrs (tr n a)
  len : (dh n a).length = n - 1
  size : (tr n a).size ≤ 6
theorem num_h {n a : Nat} (hn : n ≤ 6) (ha : a < chT n) : NumH n a := by
  have c := numH_at hn ha
  unfold numH at c
  simp only [Bool.and_eq_true, decide_eq_true_iff] at c
  obtain ⟨c1, c2, c3, c4, c5, c6⟩ := c
  have k : ∀ b ∈ fh n a, b < chT n ∧ (fh n b).any (Nat.beq a) = true ∧ (nbrs (tr n a)).any (eqB (tr n b)) = true := fun b hb => by
    have := List.all_eq_true.1 c4 b hb
    simpa only [Bool.and_eq_true, decide_eq_true_iff] using this
  refine ⟨c1, eqB_eq c2, eqRss_eq c3, fun b hb => (k b hb).1, fun b hb => ?_, fun b hb => ?_, c5, c6⟩
  · obtain ⟨x, hx, e⟩ := List.any_eq_true.1 (k b hb).2.1
    rw [Nat.eq_of_beq_eq_true e]
    exact hx
  · obtain ⟨x, hx, e⟩ := List.any_eq_true.1 (k b hb).2.2
    rw [eqB_eq e]
    exact hx

/-! ways to fans -/
def upH (n a : Nat) (v : Int) : Option Nat := (List.range (dh n a).length).find? fun k => !(atV v ((dh n a).getD k [])) && decide (degR (dh n a) v < degR (dh n ((fh n a).getD k 0)) v)
def locH (n a v : Nat) : Bool := (match upH n a (v : Int) with
  | some k => Nat.beq (degR (dh n ((fh n a).getD k 0)) (v : Int)) (degR (dh n a) (v : Int) + 1)
  | none => eqRs (dh n a) (fan ((n + 2 : Nat) : Int) (v : Int)).1 && Nat.beq (degR (dh n a) (v : Int)) (n - 1)) && (Nat.beq n 0 || Nat.beq (cntT (triR (n + 2) (dh n a)) v) (degR (dh n a) (v : Int) + 1))
def locsH (n a : Nat) : Bool := (List.range (n + 2)).all (locH n a)
theorem locH_low : (List.range 6).all (fun n => (List.range (chT n)).all (locsH n)) = true := by decide +kernel
theorem locH_0 : (List.range 22).all (fun a => locsH 6 (0 + a)) = true := by decide +kernel
theorem locH_1 : (List.range 22).all (fun a => locsH 6 (22 + a)) = true := by decide +kernel
theorem locH_2 : (List.range 22).all (fun a => locsH 6 (44 + a)) = true := by decide +kernel
theorem locH_3 : (List.range 22).all (fun a => locsH 6 (66 + a)) = true := by decide +kernel
theorem locH_4 : (List.range 22).all (fun a => locsH 6 (88 + a)) = true := by decide +kernel
theorem locH_5 : (List.range 22).all (fun a => locsH 6 (110 + a)) = true := by decide +kernel
theorem locH_at {n a v : Nat} (hn : n ≤ 6) (ha : a < chT n) (hv : v < n + 2) : locH n a v = true := by
  have key : locsH n a = true := by
    by_cases h : n < 6
    · exact List.all_eq_true.1 (List.all_eq_true.1 locH_low n (List.mem_range.2 h)) a (List.mem_range.2 ha)
    · obtain rfl : n = 6 := by omega
      have ha : a < 132 := ha
      by_cases h0 : a < 22
      · have := List.all_eq_true.1 locH_0 (a - 0) (List.mem_range.2 (by omega))
        rwa [show 0 + (a - 0) = a by omega] at this
      by_cases h1 : a < 44
      · have := List.all_eq_true.1 locH_1 (a - 22) (List.mem_range.2 (by omega))
        rwa [show 22 + (a - 22) = a by omega] at this
      by_cases h2 : a < 66
      · have := List.all_eq_true.1 locH_2 (a - 44) (List.mem_range.2 (by omega))
        rwa [show 44 + (a - 44) = a by omega] at this
      by_cases h3 : a < 88
      · have := List.all_eq_true.1 locH_3 (a - 66) (List.mem_range.2 (by omega))
        rwa [show 66 + (a - 66) = a by omega] at this
      by_cases h4 : a < 110
      · have := List.all_eq_true.1 locH_4 (a - 88) (List.mem_range.2 (by omega))
        rwa [show 88 + (a - 88) = a by omega] at this
      by_cases h5 : a < 132
      · have := List.all_eq_true.1 locH_5 (a - 110) (List.mem_range.2 (by omega))
        rwa [show 110 + (a - 110) = a by omega] at this
      omega
  exact List.all_eq_true.1 key v (List.mem_range.2 hv)
theorem find_same {p q : Nat → Bool} : ∀ {l : List Nat}, (∀ x ∈ l, p x = q x) → l.find? p = l.find? q
  | [], _ => rfl
  | x :: l, h => by
    rw [List.find?_cons, List.find?_cons, h x (.head _), find_same fun y hy => h y (.tail _ hy)]
theorem flip_at {n a k : Nat} (hn : n ≤ 6) (ha : a < chT n) (hk : k < (dh n a).length) : flipR (n + 2) (dh n a) k = dh n ((fh n a).getD k 0) ∧ (fh n a).getD k 0 ∈ fh n a := by
  have K := (num_h hn ha).flips
  have l1 : (fh n a).length = (dh n a).length := by
    have := congrArg List.length K
    rw [List.length_map, List.length_map, List.length_range] at this
    exact this.symm
  have e1 : ((List.range (dh n a).length).map (flipR (n + 2) (dh n a))).getD k [] = flipR (n + 2) (dh n a) k := by
    simp only [List.getD, List.getElem?_map, List.getElem?_range hk, Option.map_some, Option.getD_some]
  have hk2 : k < (fh n a).length := by omega
  have e2 : (fh n a).getD k 0 = (fh n a)[k] := by simp only [List.getD, List.getElem?_eq_getElem hk2, Option.getD_some]
  have e3 : ((fh n a).map (dh n)).getD k [] = dh n ((fh n a).getD k 0) := by
    rw [e2]
    simp only [List.getD, List.getElem?_map, List.getElem?_eq_getElem hk2, Option.map_some, Option.getD_some]
  exact ⟨by rw [← e1, K, e3], by rw [e2]; exact List.getElem_mem hk2⟩
theorem upH_eq {n a : Nat} (hn : n ≤ 6) (ha : a < chT n) (v : Int) : upAt (n + 2) v (dh n a) = upH n a v := by
  unfold upAt upH
  refine find_same fun k hk => ?_
  unfold upP
  rw [(flip_at hn ha (List.mem_range.1 hk)).1]
theorem up_some {n a v k : Nat} (hn : n ≤ 6) (ha : a < chT n) (hv : v < n + 2) (h : upAt (n + 2) (v : Int) (dh n a) = some k) : ∃ b, b < chT n ∧ flipR (n + 2) (dh n a) k = dh n b ∧ degR (dh n b) (v : Int) = degR (dh n a) (v : Int) + 1 := by
  have hk := (up_lt h).1
  have c := locH_at hn ha hv
  rw [upH_eq hn ha] at h
  unfold locH at c
  rw [h, Bool.and_eq_true] at c
  have f := flip_at hn ha hk
  exact ⟨_, (num_h hn ha).lt _ f.2, f.1, Nat.eq_of_beq_eq_true c.1⟩
theorem up_none {n a v : Nat} (hn : n ≤ 6) (ha : a < chT n) (hv : v < n + 2) (h : upAt (n + 2) (v : Int) (dh n a) = none) : dh n a = (fan ((n + 2 : Nat) : Int) (v : Int)).1 ∧ degR (dh n a) (v : Int) = n - 1 := by
  have c := locH_at hn ha hv
  rw [upH_eq hn ha] at h
  unfold locH at c
  rw [h, Bool.and_eq_true, Bool.and_eq_true] at c
  exact ⟨eqRs_eq c.1.1, Nat.eq_of_beq_eq_true c.1.2⟩
theorem quid_deg {n a v : Nat} (hn : n ≤ 6) (h1 : 1 ≤ n) (ha : a < chT n) (hv : v < n + 2) : (quidF ((n + 2 : Nat) : Int) (dh n a)).getD v 0 = ((degR (dh n a) (v : Int) + 1 : Nat) : Int) ∧ (quidF ((n + 2 : Nat) : Int) (dh n a)).length = n + 2 := by
  have c := locH_at hn ha hv
  unfold locH at c
  rw [Bool.and_eq_true, Bool.or_eq_true] at c
  have e : quidF ((n + 2 : Nat) : Int) (dh n a) = tab (n + 2) fun v => ((cntT (triR (n + 2) (dh n a)) (v : Nat) : Nat) : Int) := if_pos ⟨by omega, (num_h hn ha).tri⟩
  rw [e]
  refine ⟨?_, tab_length _ _⟩
  rw [tab_getD _ hv]
  rcases c.2 with h | h
  · have := Nat.eq_of_beq_eq_true h
    omega
  · rw [Nat.eq_of_beq_eq_true h]
theorem way_at {n a v : Nat} (hn : n ≤ 6) (ha : a < chT n) (hv : v < n + 2) : ∀ j, j + degR (dh n a) (v : Int) ≤ n - 1 → ∃ b, b < chT n ∧ (wayN (n + 2) (v : Int) (dh n a) j).getLast?.getD [] = dh n b ∧ degR (dh n b) (v : Int) = degR (dh n a) (v : Int) + j ∧ (wayN (n + 2) (v : Int) (dh n a) j).length = j + 1
  | 0, _ => ⟨a, ha, rfl, rfl, rfl⟩
  | j + 1, h => by
    obtain ⟨b, hb, e1, e2, e3⟩ := way_at hn ha hv j (by omega)
    cases u : upAt (n + 2) (v : Int) (dh n b) with
    | none =>
      have := (up_none hn hb hv u).2
      omega
    | some k =>
      obtain ⟨c, hc, f1, f2⟩ := up_some hn hb hv u
      rw [← e1] at u
      refine ⟨c, hc, ?_, by omega, ?_⟩
      · rw [way_next_last u, e1, f1]
      · rw [way_next u, List.length_append, e3]
        rfl
theorem way_end {n a v : Nat} (hn : n ≤ 6) (ha : a < chT n) (hv : v < n + 2) : (wayN (n + 2) (v : Int) (dh n a) (dh n a).length).getLast?.getD [] = (fan ((n + 2 : Nat) : Int) (v : Int)).1 ∧ (wayN (n + 2) (v : Int) (dh n a) (dh n a).length).length = (n - 1 - degR (dh n a) (v : Int)) + 1 := by
  have K := num_h hn ha
  have dl := degR_le (dh n a) (v : Int)
  have len := K.len
  obtain ⟨b, hb, e1, e2, e3⟩ := way_at hn ha hv (n - 1 - degR (dh n a) (v : Int)) (by omega)
  have lb := (num_h hn hb).len
  have stop : upAt (n + 2) (v : Int) (dh n b) = none := by
    cases u : upAt (n + 2) (v : Int) (dh n b) with
    | none => rfl
    | some k =>
      obtain ⟨c, hc, f1, f2⟩ := up_some hn hb hv u
      have := degR_le (dh n c) (v : Int)
      have lc := (num_h hn hc).len
      omega
  have u := stop
  rw [← e1] at u
  have e := way_stop u (degR (dh n a) (v : Int))
  rw [show n - 1 - degR (dh n a) (v : Int) + degR (dh n a) (v : Int) = (dh n a).length by omega] at e
  rw [e, e1, e3]
  exact ⟨(up_none hn hb hv stop).1, rfl⟩

end Go.Proofs.YtbicfognbbeigaaGreat

/-
  What laws over codes have in common is proved: their size, their letters, and rows of statements.
  It holds for all codes.
-/
set_option linter.unusedVariables false
set_option linter.unusedSimpArgs false
namespace Go.Proofs.YtbicfognbbeigaaGreat
open Go.Proofs.YtbicfognbbeigaaGreat.Ab Go.Proofs.YtbicfognbbeigaaGreat.Pl

theorem CurSt.callN {H0 h h' : H} {c b : Nat} {cs : List AV} {L : List (Nat × Blk)} (s : CurSt H0 h c L) (n : New h h' b cs) : CurSt H0 h' c ((b, row cs) :: L) := by
  obtain ⟨v, l, i, k, h1, h2, h3, h4⟩ := s.ex
  exact ⟨v, l, i, k, h1, h2, h3, (h4.newCall n).perm (.swap _ _ _)⟩
theorem StoreG.curI {H0 h : H} {c b : Nat} {L L' : List (Nat × Blk)} {K : H → Prop} {n sz : Nat} {l : List Int} {y : Int} (s : CurSt H0 h c L) (sp : Spot L (b, row (ints l)) (b, row (ints (l.set n y))) L') (hs : sz = 1) (ho : n < l.length)
    (hk : ∀ h', CurSt H0 h' c L' → K h') : StoreG h b (0 + mulSz n sz) (.int .i64 y) K := by
  obtain ⟨v, a, i, k, h1, h2, h3, h4⟩ := s.ex
  exact StoreG.stZ h4 (.there sp) hs ho fun h' hs' => hk h' ⟨v, a, i, k, h1, h2, h3, hs'⟩
theorem codeBig_ok (l : List UInt8) (v : AV) (h0 : H) (hv : CellsAt h0 v (bytesAV l)) : AC env 5 [v] h0 fun w h' => w = .bool (decide ((l.length : Int) > 1048576)) ∧ h' = h0 := by
  rcases hv with ⟨rfl, e⟩ | ⟨b, cp, rfl, hb⟩
  · have e2 : l = [] := List.eq_nil_of_length_eq_zero (by rw [← bytesAV_length, e]; rfl)
    subst e2
    refine AC.enter Tryz.func5 Tryz.call5 rfl Tryz.ntmps5 (of_decide_eq_true (by rfl)) ?_
    repeat' (first
      | refine AW.seq ?_
      | (refine AW.region ?_; conv => whnf)
      | (refine AW.ret ?_; conv => whnf))
    exact ⟨rfl, rfl⟩
  · refine AC.enter Tryz.func5 Tryz.call5 rfl Tryz.ntmps5 (of_decide_eq_true (by rfl)) ?_
    repeat' (first
      | refine AW.seq ?_
      | (refine AW.region ?_; conv => whnf)
      | (refine AW.ret ?_; conv => whnf))
    exact ⟨by rw [bytesAV_length], rfl⟩

/-! a row of statements, and what holds behind it -/
def runS (E : Env) (n : Nat) (Q : Exit → Fr → H → Prop) : List Code → (Fr → H → Prop) → Fr → H → Prop
  | [], M, fr, h => M fr h
  | s :: l, M, fr, h => AW E n s fr h (thenK (runS E n Q l M) Q)
def seqS : List Code → Code → Code
  | [], R => R
  | s :: l, R => .seq s (seqS l R)
theorem AW.seqS {E : Env} {n : Nat} {Q : Exit → Fr → H → Prop} {M : Fr → H → Prop} {R : Code} : ∀ (l : List Code) {fr : Fr} {h : H}, runS E n Q l M fr h → (∀ fr h, M fr h → AW E n R fr h Q) → AW E n (seqS l R) fr h Q
  | [], _, _, hx, hy => hy _ _ hx
  | s :: l, fr, h, hx, hy => AW.seq (AW.mono hx fun e fr' h' q => match e, q with
    | .normal, q => AW.seqS l q hy
    | .exit _, q => q
    | .ret, q => q
    | .goto _, q => q
    | .panic _, q => q
    | .outgrown, q => q)
/-- the code is in the first slot, and memory has only grown -/
def MidC (h0 : H) (v : AV) (fr : Fr) (h : H) : Prop := Less fr [(0, v)] ∧ Keeps h0 h

end Go.Proofs.YtbicfognbbeigaaGreat

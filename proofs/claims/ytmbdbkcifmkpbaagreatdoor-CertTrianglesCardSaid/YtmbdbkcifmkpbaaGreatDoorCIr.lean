/- The program's functions, as abstract code. -/
import Derived.Test.YtmbdbkcifmkpbaaGreatDoorProg
import Derived.Test.YtmbdbkcifmkpbaaGreatDoorCDnB
import Derived.KernelRfl

set_option linter.unusedVariables false
namespace Go.Proofs.YtmbdbkcifmkpbaaGreatDoor.Den
open Go
set_option maxRecDepth 100000
/-- vernier/vernierlaw36.CertTriangles -/
def ir3 : FnIr := ⟨⟨106, 137, 137, [(6, 106, 3), (9, 109, 3), (10, 112, 3), (13, 115, 7), (16, 122, 3), (18, 125, 3), (20, 128, 6), (22, 134, 3)]⟩,
  .seq (.reg [⟨some 6, none, .box 106 3 (.r 0)⟩,
    ⟨some 9, none, .box 109 3 (.r 3)⟩,
    ⟨some 10, none, .box 112 3 (.r 4)⟩,
    ⟨some 12, none, .mov (.b false)⟩]) 
  (.seq (.seq (.reg [⟨some 24, none, .call false false 5 []⟩,
    ⟨some 25, none, .un .not (.r 24)⟩]) 
  (.cond (.r 25)
  (.seq (.reg [⟨some 12, none, .mov (.b false)⟩]) 
   (.ret))
  (.skip))) 
  (.seq (.reg [⟨some 27, none, .ld (.r 6) 6 0 106 3 true⟩,
    ⟨some 28, none, .mov (.r 2)⟩,
    ⟨some 29, none, .ld (.r 9) 9 0 109 3 true⟩,
    ⟨some 30, none, .ld (.r 10) 10 0 112 3 true⟩,
    ⟨some 31, none, .mov (.r 5)⟩,
    ⟨some 32, none, .call false false 6 [(.r 27), (.r 28), (.r 29), (.r 30), (.r 31)]⟩,
    ⟨some 26, none, .mov (.r 32)⟩,
    ⟨some 33, none, .ext (.r 26) 0⟩,
    ⟨some 34, none, .ext (.r 26) 1⟩,
    ⟨some 13, none, .mk 115 [.bool false, .nil0, .int .i64 0, .bool false, .nil0, .int .i64 0, .bool false]⟩,
    ⟨none, none, .st (.r 13) 13 0 115 7 (.r 33)⟩,
    ⟨some 14, none, .mov (.r 34)⟩]) 
  (.seq (.seq (.reg [⟨some 35, none, .mov (.r 1)⟩]) 
  (.cond (.r 35)
  (.reg [⟨some 37, none, .ld (.r 6) 6 0 106 3 true⟩,
     ⟨some 38, none, .mov (.r 2)⟩,
     ⟨some 39, none, .ld (.r 9) 9 0 109 3 true⟩,
     ⟨some 40, none, .ld (.r 10) 10 0 112 3 true⟩,
     ⟨some 41, none, .mov (.r 5)⟩,
     ⟨some 42, none, .call false false 7 [(.r 37), (.r 38), (.r 39), (.r 40), (.r 41)]⟩,
     ⟨some 36, none, .mov (.r 42)⟩,
     ⟨some 43, none, .ext (.r 36) 0⟩,
     ⟨some 44, none, .ext (.r 36) 1⟩,
     ⟨none, none, .st (.r 13) 13 0 115 7 (.r 43)⟩,
     ⟨some 14, none, .mov (.r 44)⟩])
  (.skip))) 
  (.seq (.reg [⟨some 45, none, .ld (.r 6) 6 0 106 3 true⟩,
    ⟨some 46, none, .call false false 9 [(.r 45)]⟩,
    ⟨some 47, none, .ld (.r 9) 9 0 109 3 true⟩,
    ⟨some 48, none, .call false false 9 [(.r 47)]⟩,
    ⟨some 49, none, .call false false 8 [(.r 46), (.r 48)]⟩,
    ⟨some 50, none, .ld (.r 10) 10 0 112 3 true⟩,
    ⟨some 51, none, .call false false 9 [(.r 50)]⟩,
    ⟨some 52, none, .call false false 8 [(.r 49), (.r 51)]⟩,
    ⟨some 15, none, .mov (.r 52)⟩]) 
  (.seq (.seq (.reg [⟨some 53, none, .mov (.r 15)⟩,
    ⟨some 54, none, .bin false .eql (.r 53) (.i .i64 0)⟩,
    ⟨some 55, none, .mov (.r 54)⟩,
    ⟨some 56, some (55, true), .fad (.r 6) 0⟩,
    ⟨some 57, some (55, true), .ld (.r 56) 6 0 106 1 false⟩,
    ⟨some 58, some (55, true), .fad (.r 6) 1⟩,
    ⟨some 59, some (55, true), .ld (.r 58) 6 1 107 1 false⟩,
    ⟨some 60, some (55, true), .bin false .neq (.r 57) (.r 59)⟩,
    ⟨some 61, none, .pick (.r 55) (.r 60) (.b false)⟩]) 
  (.cond (.r 61)
  (.reg [⟨some 15, none, .mov (.i .i64 11)⟩])
  (.skip))) 
  (.seq (.reg [⟨some 63, none, .ld (.r 6) 6 0 106 3 true⟩,
    ⟨some 64, none, .mov (.r 1)⟩,
    ⟨some 65, none, .mov (.r 2)⟩,
    ⟨some 66, none, .call false false 10 [(.r 63), (.r 64), (.r 65)]⟩,
    ⟨some 62, none, .mov (.r 66)⟩,
    ⟨some 67, none, .ext (.r 62) 0⟩,
    ⟨some 68, none, .ext (.r 62) 1⟩,
    ⟨some 16, none, .mk 122 [.int .i64 0, .int .i64 0, .nil0]⟩,
    ⟨none, none, .st (.r 16) 16 0 122 3 (.r 67)⟩,
    ⟨some 17, none, .mov (.r 68)⟩]) 
  (.seq (.reg [⟨some 70, none, .ld (.r 16) 16 0 122 3 true⟩,
    ⟨some 71, none, .ld (.r 10) 10 0 112 3 true⟩,
    ⟨some 72, none, .ld (.r 9) 9 0 109 3 true⟩,
    ⟨some 73, none, .call false false 11 [(.r 70), (.r 71), (.r 72)]⟩,
    ⟨some 69, none, .mov (.r 73)⟩,
    ⟨some 74, none, .ext (.r 69) 0⟩,
    ⟨some 75, none, .ext (.r 69) 1⟩,
    ⟨some 18, none, .mk 125 [.bool false, .nil0, .int .i64 0]⟩,
    ⟨none, none, .st (.r 18) 18 0 125 3 (.r 74)⟩,
    ⟨some 19, none, .mov (.r 75)⟩]) 
  (.seq (.reg [⟨some 76, none, .mov (.r 15)⟩,
    ⟨some 77, none, .mov (.r 19)⟩,
    ⟨some 78, none, .call false false 8 [(.r 76), (.r 77)]⟩,
    ⟨some 15, none, .mov (.r 78)⟩]) 
  (.seq (.reg [⟨some 80, none, .fad (.r 6) 0⟩,
    ⟨some 81, none, .ld (.r 80) 6 0 106 1 false⟩,
    ⟨some 82, none, .fad (.r 10) 1⟩,
    ⟨some 83, none, .ld (.r 82) 10 1 113 1 false⟩,
    ⟨some 84, none, .mov (.r 1)⟩,
    ⟨some 85, none, .mov (.r 2)⟩,
    ⟨some 86, none, .mov (.r 5)⟩,
    ⟨some 87, none, .call false false 12 [(.r 81), (.r 83), (.r 84), (.r 85), (.r 86)]⟩,
    ⟨some 79, none, .mov (.r 87)⟩,
    ⟨some 88, none, .ext (.r 79) 0⟩,
    ⟨some 89, none, .ext (.r 79) 1⟩,
    ⟨some 20, none, .mk 128 [.bool false, .nil0, .int .i64 0, .bool false, .nil0, .int .i64 0]⟩,
    ⟨none, none, .st (.r 20) 20 0 128 6 (.r 88)⟩,
    ⟨some 21, none, .mov (.r 89)⟩]) 
  (.seq (.reg [⟨some 91, none, .ld (.r 20) 20 0 128 6 true⟩,
    ⟨some 92, none, .ld (.r 16) 16 0 122 3 true⟩,
    ⟨some 93, none, .ld (.r 10) 10 0 112 3 true⟩,
    ⟨some 94, none, .mov (.r 15)⟩,
    ⟨some 95, none, .mov (.r 21)⟩,
    ⟨some 96, none, .call false false 8 [(.r 94), (.r 95)]⟩,
    ⟨some 97, none, .call false false 13 [(.r 91), (.r 92), (.r 93), (.b true), (.r 96)]⟩,
    ⟨some 90, none, .mov (.r 97)⟩,
    ⟨some 98, none, .ext (.r 90) 0⟩,
    ⟨some 99, none, .ext (.r 90) 1⟩,
    ⟨some 22, none, .mk 134 [.bool false, .nil0, .int .i64 0]⟩,
    ⟨none, none, .st (.r 22) 22 0 134 3 (.r 98)⟩,
    ⟨some 23, none, .mov (.r 99)⟩]) 
  (.seq (.reg [⟨some 100, none, .ld (.r 13) 13 0 115 7 true⟩,
    ⟨some 101, none, .mov (.r 14)⟩,
    ⟨some 102, none, .ld (.r 22) 22 0 134 3 true⟩,
    ⟨some 103, none, .mov (.r 23)⟩,
    ⟨some 104, none, .ld (.r 18) 18 0 125 3 true⟩,
    ⟨some 105, none, .call false false 14 [(.r 100), (.r 101), (.r 102), (.r 103), (.r 104)]⟩,
    ⟨some 12, none, .mov (.r 105)⟩]) 
  (.ret)))))))))))),
  [.tmp 12]⟩
theorem chk3 : chkF Tryz.prog 3 ir3 = true := by kernel_rfl
/-- vernier/vernierlaw36.CertTells -/
def ir4 : FnIr := ⟨⟨150, 184, 184, [(5, 150, 3), (6, 153, 3), (7, 156, 3), (11, 159, 7), (13, 166, 3), (15, 169, 6), (17, 175, 3), (19, 178, 3), (20, 181, 3)]⟩,
  .seq (.reg [⟨some 5, none, .box 150 3 (.r 0)⟩,
    ⟨some 6, none, .box 153 3 (.r 1)⟩,
    ⟨some 7, none, .box 156 3 (.r 2)⟩,
    ⟨some 10, none, .mov (.b false)⟩]) 
  (.seq (.seq (.reg [⟨some 22, none, .call false false 5 []⟩,
    ⟨some 23, none, .un .not (.r 22)⟩]) 
  (.cond (.r 23)
  (.seq (.reg [⟨some 10, none, .mov (.b false)⟩]) 
   (.ret))
  (.skip))) 
  (.seq (.reg [⟨some 25, none, .ld (.r 5) 5 0 150 3 true⟩,
    ⟨some 26, none, .ld (.r 6) 6 0 153 3 true⟩,
    ⟨some 27, none, .ld (.r 7) 7 0 156 3 true⟩,
    ⟨some 28, none, .mov (.r 4)⟩,
    ⟨some 29, none, .call false false 15 [(.r 25), (.r 26), (.r 27), (.r 28)]⟩,
    ⟨some 24, none, .mov (.r 29)⟩,
    ⟨some 30, none, .ext (.r 24) 0⟩,
    ⟨some 31, none, .ext (.r 24) 1⟩,
    ⟨some 11, none, .mk 159 [.bool false, .nil0, .int .i64 0, .bool false, .nil0, .int .i64 0, .bool false]⟩,
    ⟨none, none, .st (.r 11) 11 0 159 7 (.r 30)⟩,
    ⟨some 12, none, .mov (.r 31)⟩]) 
  (.seq (.reg [⟨some 33, none, .ld (.r 5) 5 0 150 3 true⟩,
    ⟨some 34, none, .ld (.r 6) 6 0 153 3 true⟩,
    ⟨some 35, none, .ld (.r 7) 7 0 156 3 true⟩,
    ⟨some 36, none, .call false false 11 [(.r 33), (.r 34), (.r 35)]⟩,
    ⟨some 32, none, .mov (.r 36)⟩,
    ⟨some 37, none, .ext (.r 32) 0⟩,
    ⟨some 38, none, .ext (.r 32) 1⟩,
    ⟨some 13, none, .mk 166 [.bool false, .nil0, .int .i64 0]⟩,
    ⟨none, none, .st (.r 13) 13 0 166 3 (.r 37)⟩,
    ⟨some 14, none, .mov (.r 38)⟩]) 
  (.seq (.reg [⟨some 40, none, .fad (.r 5) 0⟩,
    ⟨some 41, none, .ld (.r 40) 5 0 150 1 false⟩,
    ⟨some 42, none, .fad (.r 5) 1⟩,
    ⟨some 43, none, .ld (.r 42) 5 1 151 1 false⟩,
    ⟨some 44, none, .fad (.r 6) 1⟩,
    ⟨some 45, none, .ld (.r 44) 6 1 154 1 false⟩,
    ⟨some 46, none, .mov (.r 4)⟩,
    ⟨some 47, none, .call false false 16 [(.r 41), (.r 43), (.r 45), (.r 46)]⟩,
    ⟨some 39, none, .mov (.r 47)⟩,
    ⟨some 48, none, .ext (.r 39) 0⟩,
    ⟨some 49, none, .ext (.r 39) 1⟩,
    ⟨some 15, none, .mk 169 [.bool false, .nil0, .int .i64 0, .bool false, .nil0, .int .i64 0]⟩,
    ⟨none, none, .st (.r 15) 15 0 169 6 (.r 48)⟩,
    ⟨some 16, none, .mov (.r 49)⟩]) 
  (.seq (.reg [⟨some 51, none, .ld (.r 15) 15 0 169 6 true⟩,
    ⟨some 52, none, .ld (.r 5) 5 0 150 3 true⟩,
    ⟨some 53, none, .ld (.r 6) 6 0 153 3 true⟩,
    ⟨some 54, none, .mov (.r 14)⟩,
    ⟨some 55, none, .mov (.r 16)⟩,
    ⟨some 56, none, .call false false 8 [(.r 54), (.r 55)]⟩,
    ⟨some 57, none, .call false false 13 [(.r 51), (.r 52), (.r 53), (.b false), (.r 56)]⟩,
    ⟨some 50, none, .mov (.r 57)⟩,
    ⟨some 58, none, .ext (.r 50) 0⟩,
    ⟨some 59, none, .ext (.r 50) 1⟩,
    ⟨some 17, none, .mk 175 [.bool false, .nil0, .int .i64 0]⟩,
    ⟨none, none, .st (.r 17) 17 0 175 3 (.r 58)⟩,
    ⟨some 18, none, .mov (.r 59)⟩]) 
  (.seq (.seq (.reg [⟨some 60, none, .ld (.r 11) 11 0 159 7 true⟩,
    ⟨some 61, none, .mov (.r 12)⟩,
    ⟨some 62, none, .ld (.r 17) 17 0 175 3 true⟩,
    ⟨some 63, none, .mov (.r 18)⟩,
    ⟨some 64, none, .ld (.r 13) 13 0 166 3 true⟩,
    ⟨some 65, none, .call false false 14 [(.r 60), (.r 61), (.r 62), (.r 63), (.r 64)]⟩,
    ⟨some 66, none, .un .not (.r 65)⟩]) 
  (.cond (.r 66)
  (.seq (.reg [⟨some 10, none, .mov (.b false)⟩]) 
   (.ret))
  (.skip))) 
  (.seq (.reg [⟨some 68, none, .ld (.r 5) 5 0 150 3 true⟩,
    ⟨some 69, none, .ld (.r 6) 6 0 153 3 true⟩,
    ⟨some 70, none, .mov (.r 3)⟩,
    ⟨some 71, none, .mov (.r 4)⟩,
    ⟨some 72, none, .call false false 17 [(.r 68), (.r 69), (.r 70), (.r 71)]⟩,
    ⟨some 67, none, .mov (.r 72)⟩,
    ⟨some 73, none, .ext (.r 67) 0⟩,
    ⟨some 74, none, .ext (.r 67) 1⟩,
    ⟨none, none, .st (.r 11) 11 0 159 7 (.r 73)⟩,
    ⟨some 12, none, .mov (.r 74)⟩]) 
  (.seq (.reg [⟨some 76, none, .ld (.r 5) 5 0 150 3 true⟩,
    ⟨some 77, none, .ld (.r 6) 6 0 153 3 true⟩,
    ⟨some 78, none, .mov (.r 3)⟩,
    ⟨some 79, none, .call false false 18 [(.r 76), (.r 77), (.r 78)]⟩,
    ⟨some 75, none, .mov (.r 79)⟩,
    ⟨some 80, none, .ext (.r 75) 0⟩,
    ⟨some 81, none, .ext (.r 75) 1⟩,
    ⟨none, none, .st (.r 13) 13 0 166 3 (.r 80)⟩,
    ⟨some 14, none, .mov (.r 81)⟩]) 
  (.seq (.reg [⟨some 83, none, .fad (.r 5) 0⟩,
    ⟨some 84, none, .ld (.r 83) 5 0 150 1 false⟩,
    ⟨some 85, none, .fad (.r 5) 1⟩,
    ⟨some 86, none, .ld (.r 85) 5 1 151 1 false⟩,
    ⟨some 87, none, .mov (.r 4)⟩,
    ⟨some 88, none, .call false false 19 [(.r 84), (.r 86), (.r 87)]⟩,
    ⟨some 82, none, .mov (.r 88)⟩,
    ⟨some 89, none, .ext (.r 82) 0⟩,
    ⟨some 90, none, .ext (.r 82) 1⟩,
    ⟨none, none, .st (.r 15) 15 0 169 6 (.r 89)⟩,
    ⟨some 16, none, .mov (.r 90)⟩]) 
  (.seq (.reg [⟨some 92, none, .ld (.r 6) 6 0 153 3 true⟩,
    ⟨some 93, none, .call false false 20 [(.r 92)]⟩,
    ⟨some 91, none, .mov (.r 93)⟩,
    ⟨some 94, none, .ext (.r 91) 0⟩,
    ⟨some 95, none, .ext (.r 91) 1⟩,
    ⟨some 96, none, .ext (.r 91) 2⟩,
    ⟨some 19, none, .mk 178 [.int .i64 0, .int .i64 0, .nil0]⟩,
    ⟨some 20, none, .mk 181 [.int .i64 0, .int .i64 0, .nil0]⟩,
    ⟨none, none, .st (.r 19) 19 0 178 3 (.r 94)⟩,
    ⟨none, none, .st (.r 20) 20 0 181 3 (.r 95)⟩,
    ⟨some 21, none, .mov (.r 96)⟩]) 
  (.seq (.reg [⟨some 98, none, .ld (.r 15) 15 0 169 6 true⟩,
    ⟨some 99, none, .ld (.r 19) 19 0 178 3 true⟩,
    ⟨some 100, none, .ld (.r 20) 20 0 181 3 true⟩,
    ⟨some 101, none, .mov (.r 14)⟩,
    ⟨some 102, none, .mov (.r 16)⟩,
    ⟨some 103, none, .call false false 8 [(.r 101), (.r 102)]⟩,
    ⟨some 104, none, .call false false 13 [(.r 98), (.r 99), (.r 100), (.b true), (.r 103)]⟩,
    ⟨some 97, none, .mov (.r 104)⟩,
    ⟨some 105, none, .ext (.r 97) 0⟩,
    ⟨some 106, none, .ext (.r 97) 1⟩,
    ⟨none, none, .st (.r 17) 17 0 175 3 (.r 105)⟩,
    ⟨some 18, none, .mov (.r 106)⟩]) 
  (.seq (.seq (.reg [⟨some 107, none, .ld (.r 11) 11 0 159 7 true⟩,
    ⟨some 108, none, .mov (.r 12)⟩,
    ⟨some 109, none, .ld (.r 17) 17 0 175 3 true⟩,
    ⟨some 110, none, .mov (.r 18)⟩,
    ⟨some 111, none, .ld (.r 13) 13 0 166 3 true⟩,
    ⟨some 112, none, .call false false 14 [(.r 107), (.r 108), (.r 109), (.r 110), (.r 111)]⟩,
    ⟨some 113, none, .un .not (.r 112)⟩]) 
  (.cond (.r 113)
  (.seq (.reg [⟨some 10, none, .mov (.b false)⟩]) 
   (.ret))
  (.skip))) 
  (.seq (.reg [⟨some 115, none, .ld (.r 5) 5 0 150 3 true⟩,
    ⟨some 116, none, .ld (.r 6) 6 0 153 3 true⟩,
    ⟨some 117, none, .mov (.r 4)⟩,
    ⟨some 118, none, .call false false 21 [(.r 115), (.r 116), (.r 117)]⟩,
    ⟨some 114, none, .mov (.r 118)⟩,
    ⟨some 119, none, .ext (.r 114) 0⟩,
    ⟨some 120, none, .ext (.r 114) 1⟩,
    ⟨none, none, .st (.r 11) 11 0 159 7 (.r 119)⟩,
    ⟨some 12, none, .mov (.r 120)⟩]) 
  (.seq (.reg [⟨some 122, none, .ld (.r 5) 5 0 150 3 true⟩,
    ⟨some 123, none, .ld (.r 6) 6 0 153 3 true⟩,
    ⟨some 124, none, .call false false 22 [(.r 122), (.r 123)]⟩,
    ⟨some 121, none, .mov (.r 124)⟩,
    ⟨some 125, none, .ext (.r 121) 0⟩,
    ⟨some 126, none, .ext (.r 121) 1⟩,
    ⟨none, none, .st (.r 13) 13 0 166 3 (.r 125)⟩,
    ⟨some 14, none, .mov (.r 126)⟩]) 
  (.seq (.reg [⟨some 128, none, .fad (.r 5) 0⟩,
    ⟨some 129, none, .ld (.r 128) 5 0 150 1 false⟩,
    ⟨some 130, none, .mov (.r 4)⟩,
    ⟨some 131, none, .call false false 23 [(.r 129), (.r 130)]⟩,
    ⟨some 127, none, .mov (.r 131)⟩,
    ⟨some 132, none, .ext (.r 127) 0⟩,
    ⟨some 133, none, .ext (.r 127) 1⟩,
    ⟨none, none, .st (.r 15) 15 0 169 6 (.r 132)⟩,
    ⟨some 16, none, .mov (.r 133)⟩]) 
  (.seq (.reg [⟨some 135, none, .ld (.r 15) 15 0 169 6 true⟩,
    ⟨some 136, none, .ld (.r 6) 6 0 153 3 true⟩,
    ⟨some 137, none, .ld (.r 6) 6 0 153 3 true⟩,
    ⟨some 138, none, .mov (.r 14)⟩,
    ⟨some 139, none, .mov (.r 16)⟩,
    ⟨some 140, none, .call false false 8 [(.r 138), (.r 139)]⟩,
    ⟨some 141, none, .call false false 13 [(.r 135), (.r 136), (.r 137), (.b true), (.r 140)]⟩,
    ⟨some 134, none, .mov (.r 141)⟩,
    ⟨some 142, none, .ext (.r 134) 0⟩,
    ⟨some 143, none, .ext (.r 134) 1⟩,
    ⟨none, none, .st (.r 17) 17 0 175 3 (.r 142)⟩,
    ⟨some 18, none, .mov (.r 143)⟩]) 
  (.seq (.reg [⟨some 144, none, .ld (.r 11) 11 0 159 7 true⟩,
    ⟨some 145, none, .mov (.r 12)⟩,
    ⟨some 146, none, .ld (.r 17) 17 0 175 3 true⟩,
    ⟨some 147, none, .mov (.r 18)⟩,
    ⟨some 148, none, .ld (.r 13) 13 0 166 3 true⟩,
    ⟨some 149, none, .call false false 14 [(.r 144), (.r 145), (.r 146), (.r 147), (.r 148)]⟩,
    ⟨some 10, none, .mov (.r 149)⟩]) 
  (.ret)))))))))))))))))),
  [.tmp 10]⟩
theorem chk4 : chkF Tryz.prog 4 ir4 = true := by kernel_rfl
/-- vernier/vernierlaw36.alive -/
def ir5 : FnIr := ⟨⟨33, 43, 43, [(1, 33, 3), (2, 36, 7)]⟩,
  .seq (.reg [⟨some 0, none, .mov (.b false)⟩]) 
  (.seq (.reg [⟨some 4, none, .bsl 1 1 false [(0, 1, (.i .u64 4607182418800017408))] [.int .u64 0]⟩,
    ⟨some 5, none, .bld [(0, 1, (.i .i64 1)), (1, 1, (.i .i64 1)), (2, 1, (.r 4))] [.int .i64 0, .int .i64 0, .nil0]⟩,
    ⟨some 1, none, .mk 33 [.int .i64 0, .int .i64 0, .nil0]⟩,
    ⟨none, none, .st (.r 1) 1 0 33 3 (.r 5)⟩]) 
  (.seq (.reg [⟨some 7, none, .ld (.r 1) 1 0 33 3 true⟩,
    ⟨some 8, none, .ld (.r 1) 1 0 33 3 true⟩,
    ⟨some 9, none, .ld (.r 1) 1 0 33 3 true⟩,
    ⟨some 10, none, .call false false 15 [(.r 7), (.r 8), (.r 9), (.i .i64 1)]⟩,
    ⟨some 6, none, .mov (.r 10)⟩,
    ⟨some 11, none, .ext (.r 6) 0⟩,
    ⟨some 12, none, .ext (.r 6) 1⟩,
    ⟨some 2, none, .mk 36 [.bool false, .nil0, .int .i64 0, .bool false, .nil0, .int .i64 0, .bool false]⟩,
    ⟨none, none, .st (.r 2) 2 0 36 7 (.r 11)⟩,
    ⟨some 3, none, .mov (.r 12)⟩]) 
  (.seq (.reg [⟨some 13, none, .mov (.r 3)⟩,
    ⟨some 14, none, .bin false .eql (.r 13) (.i .i64 0)⟩,
    ⟨some 15, none, .mov (.r 14)⟩,
    ⟨some 16, some (15, true), .fad (.r 2) 6⟩,
    ⟨some 17, some (15, true), .ld (.r 16) 2 6 42 1 false⟩,
    ⟨some 18, none, .pick (.r 15) (.r 17) (.b false)⟩,
    ⟨some 19, none, .mov (.r 18)⟩,
    ⟨some 20, some (19, true), .fad (.r 2) 3⟩,
    ⟨some 21, some (19, true), .fad (.r 20) 1⟩,
    ⟨some 22, some (19, true), .ld (.r 21) 2 4 40 1 false⟩,
    ⟨some 23, some (19, true), .len false (.r 22)⟩,
    ⟨some 24, some (19, true), .bin false .eql (.r 23) (.i .i64 0)⟩,
    ⟨some 25, none, .pick (.r 19) (.r 24) (.b false)⟩,
    ⟨some 26, none, .mov (.r 25)⟩,
    ⟨some 27, some (26, true), .fad (.r 2) 0⟩,
    ⟨some 28, some (26, true), .fad (.r 27) 1⟩,
    ⟨some 29, some (26, true), .ld (.r 28) 2 1 37 1 false⟩,
    ⟨some 30, some (26, true), .len false (.r 29)⟩,
    ⟨some 31, some (26, true), .bin false .gtr (.r 30) (.i .i64 0)⟩,
    ⟨some 32, none, .pick (.r 26) (.r 31) (.b false)⟩,
    ⟨some 0, none, .mov (.r 32)⟩]) 
  (.ret)))),
  [.tmp 0]⟩
theorem chk5 : chkF Tryz.prog 5 ir5 = true := by kernel_rfl
/-- vernier/cert.Lower -/
def ir6 : FnIr := ⟨⟨21, 37, 37, [(5, 21, 3), (7, 24, 3), (8, 27, 3), (10, 30, 7)]⟩,
  .seq (.reg [⟨some 5, none, .box 21 3 (.r 0)⟩,
    ⟨some 7, none, .box 24 3 (.r 2)⟩,
    ⟨some 8, none, .box 27 3 (.r 3)⟩,
    ⟨some 10, none, .mk 30 [.bool false, .nil0, .int .i64 0, .bool false, .nil0, .int .i64 0, .bool false]⟩,
    ⟨some 11, none, .mov (.i .i64 0)⟩]) 
  (.seq (.reg [⟨some 12, none, .mov (.r 1)⟩,
    ⟨some 13, none, .mov (.r 4)⟩,
    ⟨some 14, none, .bld [(0, 1, (.r 12)), (1, 1, (.b false)), (2, 1, (.r 13))] [.bool false, .bool false, .int .i64 0]⟩,
    ⟨some 15, none, .ld (.r 5) 5 0 21 3 true⟩,
    ⟨some 16, none, .ld (.r 7) 7 0 24 3 true⟩,
    ⟨some 17, none, .ld (.r 8) 8 0 27 3 true⟩,
    ⟨some 18, none, .call false false 24 [(.r 14), (.r 15), (.r 16), (.r 17)]⟩,
    ⟨some 19, none, .ext (.r 18) 0⟩,
    ⟨some 20, none, .ext (.r 18) 1⟩,
    ⟨none, none, .st (.r 10) 10 0 30 7 (.r 19)⟩,
    ⟨some 11, none, .mov (.r 20)⟩]) 
  (.ret)),
  [.cell 10 10 30 7, .tmp 11]⟩
theorem chk6 : chkF Tryz.prog 6 ir6 = true := by kernel_rfl
/-- vernier/cert.Upper -/
def ir7 : FnIr := ⟨⟨21, 37, 37, [(5, 21, 3), (7, 24, 3), (8, 27, 3), (10, 30, 7)]⟩,
  .seq (.reg [⟨some 5, none, .box 21 3 (.r 0)⟩,
    ⟨some 7, none, .box 24 3 (.r 2)⟩,
    ⟨some 8, none, .box 27 3 (.r 3)⟩,
    ⟨some 10, none, .mk 30 [.bool false, .nil0, .int .i64 0, .bool false, .nil0, .int .i64 0, .bool false]⟩,
    ⟨some 11, none, .mov (.i .i64 0)⟩]) 
  (.seq (.reg [⟨some 12, none, .mov (.r 1)⟩,
    ⟨some 13, none, .mov (.r 4)⟩,
    ⟨some 14, none, .bld [(0, 1, (.r 12)), (1, 1, (.b true)), (2, 1, (.r 13))] [.bool false, .bool false, .int .i64 0]⟩,
    ⟨some 15, none, .ld (.r 5) 5 0 21 3 true⟩,
    ⟨some 16, none, .ld (.r 7) 7 0 24 3 true⟩,
    ⟨some 17, none, .ld (.r 8) 8 0 27 3 true⟩,
    ⟨some 18, none, .call false false 24 [(.r 14), (.r 15), (.r 16), (.r 17)]⟩,
    ⟨some 19, none, .ext (.r 18) 0⟩,
    ⟨some 20, none, .ext (.r 18) 1⟩,
    ⟨none, none, .st (.r 10) 10 0 30 7 (.r 19)⟩,
    ⟨some 11, none, .mov (.r 20)⟩]) 
  (.ret)),
  [.cell 10 10 30 7, .tmp 11]⟩
theorem chk7 : chkF Tryz.prog 7 ir7 = true := by kernel_rfl
/-- vernier/vernierlaw36.first -/
def ir8 : FnIr := ⟨⟨9, 9, 9, []⟩,
  .seq (.reg [⟨some 4, none, .mov (.i .i64 0)⟩]) 
  (.seq (.seq (.reg [⟨some 5, none, .mov (.r 0)⟩,
    ⟨some 6, none, .bin false .neq (.r 5) (.i .i64 0)⟩]) 
  (.cond (.r 6)
  (.seq (.reg [⟨some 7, none, .mov (.r 0)⟩,
     ⟨some 4, none, .mov (.r 7)⟩]) 
   (.ret))
  (.skip))) 
  (.seq (.reg [⟨some 8, none, .mov (.r 1)⟩,
    ⟨some 4, none, .mov (.r 8)⟩]) 
  (.ret))),
  [.tmp 4]⟩
theorem chk8 : chkF Tryz.prog 8 ir8 = true := by kernel_rfl
/-- vernier/tri.Half -/
def ir10 : FnIr := ⟨⟨72, 81, 82, [(3, 72, 3), (6, 75, 3), (9, 78, 3)]⟩,
  .seq (.reg [⟨some 3, none, .box 72 3 (.r 0)⟩,
    ⟨some 6, none, .mk 75 [.int .i64 0, .int .i64 0, .nil0]⟩,
    ⟨some 7, none, .mov (.i .i64 0)⟩]) 
  (.seq (.seq (.reg [⟨some 14, none, .ld (.r 3) 3 0 72 3 true⟩,
    ⟨some 15, none, .call false false 25 [(.r 14)]⟩,
    ⟨some 8, none, .mov (.r 15)⟩]) 
  (.seq (.reg [⟨some 16, none, .mov (.r 8)⟩,
    ⟨some 17, none, .bin false .neq (.r 16) (.i .i64 0)⟩]) 
  (.cond (.r 17)
  (.seq (.reg [⟨some 18, none, .bld [] [.int .i64 0, .int .i64 0, .nil0]⟩,
     ⟨some 19, none, .mov (.r 8)⟩,
     ⟨none, none, .st (.r 6) 6 0 75 3 (.r 18)⟩,
     ⟨some 7, none, .mov (.r 19)⟩]) 
   (.ret))
  (.skip)))) 
  (.seq (.reg [⟨some 21, none, .fad (.r 3) 0⟩,
    ⟨some 22, none, .ld (.r 21) 3 0 72 1 false⟩,
    ⟨some 23, none, .fad (.r 3) 1⟩,
    ⟨some 24, none, .ld (.r 23) 3 1 73 1 false⟩,
    ⟨some 25, none, .callf 0 29 [(.r 22), (.r 24)]⟩,
    ⟨some 20, none, .mov (.r 25)⟩,
    ⟨some 26, none, .ext (.r 20) 0⟩,
    ⟨some 27, none, .ext (.r 20) 1⟩,
    ⟨some 9, none, .mk 78 [.int .i64 0, .int .i64 0, .nil0]⟩,
    ⟨none, none, .st (.r 9) 9 0 78 3 (.r 26)⟩,
    ⟨some 10, none, .mov (.r 27)⟩]) 
  (.seq (.seq (.reg [⟨some 28, none, .fad (.r 3) 0⟩,
    ⟨some 29, none, .ld (.r 28) 3 0 72 1 false⟩,
    ⟨some 30, none, .mov (.i .i64 0)⟩]) 
  (.block 0 (.kil ⟨[11, 12, 13, 31, 32, 33, 34, 35, 36, 37, 38, 39, 40, 41, 42, 43, 44, 45, 46, 47, 48, 49, 50, 51, 52, 53, 54, 55, 56, 57, 58, 59, 60, 61, 62, 63, 64, 65, 66, 67, 68, 69, 70], [], [], []⟩ (.loop ⟨[11, 12, 13, 31, 32, 33, 34, 35, 36, 37, 38, 39, 40, 41, 42, 43, 44, 45, 46, 47, 48, 49, 50, 51, 52, 53, 54, 55, 56, 57, 58, 59, 60, 61, 62, 63, 64, 65, 66, 67, 68, 69, 70], [], [], []⟩ (.seq (.reg [⟨some 31, none, .bin false .lss (.r 30) (.r 29)⟩]) 
    (.seq (.cond (.r 31)
    (.skip)
    (.exit 0)) 
    (.seq (.block 1 (.seq (.reg [⟨some 32, none, .mov (.r 30)⟩,
       ⟨some 11, none, .mov (.r 32)⟩]) 
     (.seq (.reg [⟨some 33, none, .fad (.r 3) 1⟩,
       ⟨some 34, none, .ld (.r 33) 3 1 73 1 false⟩,
       ⟨some 35, none, .mov (.i .i64 0)⟩]) 
     (.block 2 (.kil ⟨[12, 13, 36, 37, 38, 39, 40, 41, 42, 43, 44, 45, 46, 47, 48, 49, 50, 51, 52, 53, 54, 55, 56, 57, 58, 59, 60, 61, 62, 63, 64, 65, 66, 67, 68, 69], [], [], []⟩ (.loop ⟨[12, 13, 36, 37, 38, 39, 40, 41, 42, 43, 44, 45, 46, 47, 48, 49, 50, 51, 52, 53, 54, 55, 56, 57, 58, 59, 60, 61, 62, 63, 64, 65, 66, 67, 68, 69], [], [], []⟩ (.seq (.reg [⟨some 36, none, .bin false .lss (.r 35) (.r 34)⟩]) 
       (.seq (.cond (.r 36)
       (.skip)
       (.exit 2)) 
       (.seq (.block 3 (.seq (.reg [⟨some 37, none, .mov (.r 35)⟩,
          ⟨some 12, none, .mov (.r 37)⟩]) 
        (.seq (.reg [⟨some 38, none, .mov (.r 11)⟩,
          ⟨some 39, none, .fad (.r 3) 1⟩,
          ⟨some 40, none, .ld (.r 39) 3 1 73 1 false⟩,
          ⟨some 41, none, .bin false .mul (.r 38) (.r 40)⟩,
          ⟨some 42, none, .mov (.r 12)⟩,
          ⟨some 43, none, .bin false .add (.r 41) (.r 42)⟩,
          ⟨some 13, none, .mov (.r 43)⟩]) 
        (.block 4 (.seq (.reg [⟨some 45, none, .mov (.r 11)⟩,
           ⟨some 46, none, .mov (.r 12)⟩,
           ⟨some 47, none, .bin false .eql (.r 45) (.r 46)⟩,
           ⟨some 48, none, .mov (.r 47)⟩,
           ⟨some 49, some (48, true), .mov (.r 2)⟩,
           ⟨some 50, none, .pick (.r 48) (.r 49) (.b false)⟩,
           ⟨some 44, none, .mov (.r 50)⟩]) 
         (.cond (.r 44)
         (.reg [⟨some 51, none, .fad (.r 9) 2⟩,
            ⟨some 52, none, .ld (.r 51) 9 2 80 1 false⟩,
            ⟨some 53, none, .mov (.r 13)⟩,
            ⟨some 54, none, .eat true (.r 52) (.r 53) 1⟩,
            ⟨none, none, .ste (.r 54) false 1 (.i .u64 4607182418800017408)⟩])
         (.seq (.reg [⟨some 56, none, .mov (.r 11)⟩,
            ⟨some 57, none, .mov (.r 12)⟩,
            ⟨some 58, none, .mov (.r 1)⟩,
            ⟨some 59, none, .call false false 30 [(.r 56), (.r 57), (.r 58)]⟩,
            ⟨some 55, none, .mov (.r 59)⟩]) 
          (.cond (.r 55)
          (.reg [⟨some 60, none, .fad (.r 9) 2⟩,
             ⟨some 61, none, .ld (.r 60) 9 2 80 1 false⟩,
             ⟨some 62, none, .mov (.r 13)⟩,
             ⟨some 63, none, .fad (.r 3) 2⟩,
             ⟨some 64, none, .ld (.r 63) 3 2 74 1 false⟩,
             ⟨some 65, none, .mov (.r 13)⟩,
             ⟨some 66, none, .eat false (.r 64) (.r 65) 1⟩,
             ⟨some 67, none, .lde false (.r 66) 1 false⟩,
             ⟨some 68, none, .eat true (.r 61) (.r 62) 1⟩,
             ⟨none, none, .ste (.r 68) false 1 (.r 67)⟩])
          (.skip))))))))) 
       (.reg [⟨some 69, none, .bin false .add (.r 35) (.i .i64 1)⟩,
         ⟨some 35, none, .mov (.r 69)⟩])))))))))) 
    (.reg [⟨some 70, none, .bin false .add (.r 30) (.i .i64 1)⟩,
      ⟨some 30, none, .mov (.r 70)⟩])))))))) 
  (.seq (.reg [⟨some 71, none, .ld (.r 9) 9 0 78 3 true⟩,
    ⟨none, none, .st (.r 6) 6 0 75 3 (.r 71)⟩,
    ⟨some 7, none, .mov (.i .i64 0)⟩]) 
  (.ret))))),
  [.cell 6 6 75 3, .tmp 7]⟩
theorem chk10 : chkF Tryz.prog 10 ir10 = true := by kernel_rfl
/-- vernier/resid.Product -/
def ir11 : FnIr := ⟨⟨47, 59, 59, [(3, 47, 3), (4, 50, 3), (5, 53, 3), (6, 56, 3)]⟩,
  .seq (.reg [⟨some 3, none, .box 47 3 (.r 0)⟩,
    ⟨some 4, none, .box 50 3 (.r 1)⟩,
    ⟨some 5, none, .box 53 3 (.r 2)⟩,
    ⟨some 6, none, .mk 56 [.bool false, .nil0, .int .i64 0]⟩,
    ⟨some 7, none, .mov (.i .i64 0)⟩]) 
  (.seq (.seq (.reg [⟨some 9, none, .ld (.r 3) 3 0 47 3 true⟩,
    ⟨some 10, none, .ld (.r 4) 4 0 50 3 true⟩,
    ⟨some 11, none, .ld (.r 5) 5 0 53 3 true⟩,
    ⟨some 12, none, .bsl 3 3 true [(0, 3, (.r 9)), (3, 3, (.r 10)), (6, 3, (.r 11))] [.int .i64 0, .int .i64 0, .nil0]⟩,
    ⟨some 13, none, .call false false 31 [(.r 12)]⟩,
    ⟨some 8, none, .mov (.r 13)⟩]) 
  (.seq (.reg [⟨some 14, none, .mov (.r 8)⟩,
    ⟨some 15, none, .bin false .neq (.r 14) (.i .i64 0)⟩]) 
  (.cond (.r 15)
  (.seq (.reg [⟨some 16, none, .bld [] [.bool false, .nil0, .int .i64 0]⟩,
     ⟨some 17, none, .mov (.r 8)⟩,
     ⟨none, none, .st (.r 6) 6 0 56 3 (.r 16)⟩,
     ⟨some 7, none, .mov (.r 17)⟩]) 
   (.ret))
  (.skip)))) 
  (.seq (.seq (.reg [⟨some 18, none, .fad (.r 3) 1⟩,
    ⟨some 19, none, .ld (.r 18) 3 1 48 1 false⟩,
    ⟨some 20, none, .fad (.r 4) 0⟩,
    ⟨some 21, none, .ld (.r 20) 4 0 50 1 false⟩,
    ⟨some 22, none, .bin false .neq (.r 19) (.r 21)⟩,
    ⟨some 23, none, .mov (.r 22)⟩,
    ⟨some 24, some (23, false), .fad (.r 5) 0⟩,
    ⟨some 25, some (23, false), .ld (.r 24) 5 0 53 1 false⟩,
    ⟨some 26, some (23, false), .fad (.r 3) 0⟩,
    ⟨some 27, some (23, false), .ld (.r 26) 3 0 47 1 false⟩,
    ⟨some 28, some (23, false), .bin false .neq (.r 25) (.r 27)⟩,
    ⟨some 29, none, .pick (.r 23) (.b true) (.r 28)⟩,
    ⟨some 30, none, .mov (.r 29)⟩,
    ⟨some 31, some (30, false), .fad (.r 5) 1⟩,
    ⟨some 32, some (30, false), .ld (.r 31) 5 1 54 1 false⟩,
    ⟨some 33, some (30, false), .fad (.r 4) 1⟩,
    ⟨some 34, some (30, false), .ld (.r 33) 4 1 51 1 false⟩,
    ⟨some 35, some (30, false), .bin false .neq (.r 32) (.r 34)⟩,
    ⟨some 36, none, .pick (.r 30) (.b true) (.r 35)⟩]) 
  (.cond (.r 36)
  (.seq (.reg [⟨some 37, none, .bld [] [.bool false, .nil0, .int .i64 0]⟩,
     ⟨none, none, .st (.r 6) 6 0 56 3 (.r 37)⟩,
     ⟨some 7, none, .mov (.i .i64 11)⟩]) 
   (.ret))
  (.skip))) 
  (.seq (.reg [⟨some 38, none, .ld (.r 5) 5 0 53 3 true⟩,
    ⟨some 39, none, .call false false 32 [(.r 38)]⟩,
    ⟨some 40, none, .ld (.r 3) 3 0 47 3 true⟩,
    ⟨some 41, none, .call false false 32 [(.r 40)]⟩,
    ⟨some 42, none, .ld (.r 4) 4 0 50 3 true⟩,
    ⟨some 43, none, .call false false 32 [(.r 42)]⟩,
    ⟨some 44, none, .call false false 34 [(.r 41), (.r 43)]⟩,
    ⟨some 45, none, .call false false 33 [(.r 39), (.r 44)]⟩,
    ⟨some 46, none, .call false false 35 [(.r 45)]⟩,
    ⟨none, none, .st (.r 6) 6 0 56 3 (.r 46)⟩,
    ⟨some 7, none, .mov (.i .i64 0)⟩]) 
  (.ret)))),
  [.cell 6 6 56 3, .tmp 7]⟩
theorem chk11 : chkF Tryz.prog 11 ir11 = true := by kernel_rfl
/-- vernier/bound.Tri -/
def ir12 : FnIr := ⟨⟨27, 33, 33, [(10, 27, 6)]⟩,
  .seq (.reg [⟨some 10, none, .mk 27 [.bool false, .nil0, .int .i64 0, .bool false, .nil0, .int .i64 0]⟩,
    ⟨some 11, none, .mov (.i .i64 0)⟩]) 
  (.seq (.seq (.reg [⟨some 12, none, .mov (.r 4)⟩,
    ⟨some 13, none, .mov (.r 0)⟩,
    ⟨some 14, none, .mov (.r 1)⟩,
    ⟨some 15, none, .bsl 2 1 false [(0, 1, (.r 13)), (1, 1, (.r 14))] [.int .i64 0]⟩,
    ⟨some 16, none, .call false false 36 [(.r 12), (.r 15)]⟩]) 
  (.cond (.r 16)
  (.seq (.reg [⟨some 17, none, .bld [] [.bool false, .nil0, .int .i64 0, .bool false, .nil0, .int .i64 0]⟩,
     ⟨none, none, .st (.r 10) 10 0 27 6 (.r 17)⟩,
     ⟨some 11, none, .mov (.i .i64 4)⟩]) 
   (.ret))
  (.skip))) 
  (.seq (.reg [⟨some 18, none, .mov (.r 0)⟩,
    ⟨some 19, none, .mov (.r 1)⟩,
    ⟨some 20, none, .mov (.r 2)⟩,
    ⟨some 21, none, .mov (.r 3)⟩,
    ⟨some 22, none, .mov (.r 4)⟩,
    ⟨some 23, none, .call false false 37 [(.r 18), (.r 19), (.r 20), (.r 21), (.r 22)]⟩,
    ⟨some 24, none, .call false false 38 [(.r 23)]⟩,
    ⟨some 25, none, .ext (.r 24) 0⟩,
    ⟨some 26, none, .ext (.r 24) 1⟩,
    ⟨none, none, .st (.r 10) 10 0 27 6 (.r 25)⟩,
    ⟨some 11, none, .mov (.r 26)⟩]) 
  (.ret))),
  [.cell 10 10 27 6, .tmp 11]⟩
theorem chk12 : chkF Tryz.prog 12 ir12 = true := by kernel_rfl
/-- vernier/vernierlaw36.value -/
def ir13 : FnIr := ⟨⟨37, 58, 58, [(5, 37, 6), (6, 43, 3), (7, 46, 3), (10, 49, 3), (12, 52, 3), (14, 55, 3)]⟩,
  .seq (.reg [⟨some 5, none, .box 37 6 (.r 0)⟩,
    ⟨some 6, none, .box 43 3 (.r 1)⟩,
    ⟨some 7, none, .box 46 3 (.r 2)⟩,
    ⟨some 10, none, .mk 49 [.bool false, .nil0, .int .i64 0]⟩,
    ⟨some 11, none, .mov (.i .i64 0)⟩]) 
  (.seq (.seq (.reg [⟨some 16, none, .mov (.r 4)⟩,
    ⟨some 17, none, .bin false .neq (.r 16) (.i .i64 0)⟩]) 
  (.cond (.r 17)
  (.seq (.reg [⟨some 18, none, .bld [] [.bool false, .nil0, .int .i64 0]⟩,
     ⟨some 19, none, .mov (.r 4)⟩,
     ⟨none, none, .st (.r 10) 10 0 49 3 (.r 18)⟩,
     ⟨some 11, none, .mov (.r 19)⟩]) 
   (.ret))
  (.skip))) 
  (.seq (.reg [⟨some 21, none, .ld (.r 6) 6 0 43 3 true⟩,
    ⟨some 22, none, .call false false 39 [(.r 21)]⟩,
    ⟨some 20, none, .mov (.r 22)⟩,
    ⟨some 23, none, .ext (.r 20) 0⟩,
    ⟨some 24, none, .ext (.r 20) 1⟩,
    ⟨some 12, none, .mk 52 [.bool false, .nil0, .int .i64 0]⟩,
    ⟨none, none, .st (.r 12) 12 0 52 3 (.r 23)⟩,
    ⟨some 13, none, .mov (.r 24)⟩]) 
  (.seq (.reg [⟨some 26, none, .ld (.r 7) 7 0 46 3 true⟩,
    ⟨some 27, none, .call false false 39 [(.r 26)]⟩,
    ⟨some 25, none, .mov (.r 27)⟩,
    ⟨some 28, none, .ext (.r 25) 0⟩,
    ⟨some 29, none, .ext (.r 25) 1⟩,
    ⟨some 14, none, .mk 55 [.bool false, .nil0, .int .i64 0]⟩,
    ⟨none, none, .st (.r 14) 14 0 55 3 (.r 28)⟩,
    ⟨some 15, none, .mov (.r 29)⟩]) 
  (.seq (.reg [⟨some 30, none, .ld (.r 5) 5 0 37 6 true⟩,
    ⟨some 31, none, .ld (.r 12) 12 0 52 3 true⟩,
    ⟨some 32, none, .ld (.r 14) 14 0 55 3 true⟩,
    ⟨some 33, none, .mov (.r 3)⟩,
    ⟨some 34, none, .call false false 40 [(.r 30), (.r 31), (.r 32), (.r 33)]⟩,
    ⟨some 35, none, .ext (.r 34) 0⟩,
    ⟨some 36, none, .ext (.r 34) 1⟩,
    ⟨none, none, .st (.r 10) 10 0 49 3 (.r 35)⟩,
    ⟨some 11, none, .mov (.r 36)⟩]) 
  (.ret))))),
  [.cell 10 10 49 3, .tmp 11]⟩
theorem chk13 : chkF Tryz.prog 13 ir13 = true := by kernel_rfl
/-- vernier/vernierlaw36.is -/
def ir14 : FnIr := ⟨⟨76, 89, 89, [(5, 76, 7), (7, 83, 3), (9, 86, 3)]⟩,
  .seq (.reg [⟨some 5, none, .box 76 7 (.r 0)⟩,
    ⟨some 7, none, .box 83 3 (.r 2)⟩,
    ⟨some 9, none, .box 86 3 (.r 4)⟩,
    ⟨some 10, none, .mov (.b false)⟩]) 
  (.seq (.seq (.reg [⟨some 17, none, .mov (.r 3)⟩,
    ⟨some 18, none, .bin false .neq (.r 17) (.i .i64 0)⟩]) 
  (.cond (.r 18)
  (.seq (.reg [⟨some 19, none, .mov (.r 1)⟩,
     ⟨some 20, none, .mov (.r 3)⟩,
     ⟨some 21, none, .bin false .eql (.r 19) (.r 20)⟩,
     ⟨some 22, none, .mov (.r 21)⟩,
     ⟨some 23, some (22, true), .fad (.r 5) 6⟩,
     ⟨some 24, some (22, true), .ld (.r 23) 5 6 82 1 false⟩,
     ⟨some 25, some (22, true), .un .not (.r 24)⟩,
     ⟨some 26, none, .pick (.r 22) (.r 25) (.b false)⟩,
     ⟨some 27, none, .mov (.r 26)⟩,
     ⟨some 28, some (27, true), .fad (.r 5) 3⟩,
     ⟨some 29, some (27, true), .fad (.r 28) 1⟩,
     ⟨some 30, some (27, true), .ld (.r 29) 5 4 80 1 false⟩,
     ⟨some 31, some (27, true), .len false (.r 30)⟩,
     ⟨some 32, some (27, true), .fad (.r 5) 0⟩,
     ⟨some 33, some (27, true), .fad (.r 32) 1⟩,
     ⟨some 34, some (27, true), .ld (.r 33) 5 1 77 1 false⟩,
     ⟨some 35, some (27, true), .len false (.r 34)⟩,
     ⟨some 36, some (27, true), .bin false .add (.r 31) (.r 35)⟩,
     ⟨some 37, some (27, true), .bin false .eql (.r 36) (.i .i64 0)⟩,
     ⟨some 38, none, .pick (.r 27) (.r 37) (.b false)⟩,
     ⟨some 10, none, .mov (.r 38)⟩]) 
   (.ret))
  (.skip))) 
  (.seq (.reg [⟨some 40, none, .ld (.r 9) 9 0 86 3 true⟩,
    ⟨some 41, none, .ld (.r 7) 7 0 83 3 true⟩,
    ⟨some 42, none, .call false false 41 [(.r 40), (.r 41)]⟩,
    ⟨some 39, none, .mov (.r 42)⟩,
    ⟨some 43, none, .ext (.r 39) 0⟩,
    ⟨some 44, none, .ext (.r 39) 1⟩,
    ⟨some 11, none, .mov (.r 43)⟩,
    ⟨some 12, none, .mov (.r 44)⟩]) 
  (.seq (.reg [⟨some 46, none, .fad (.r 5) 0⟩,
    ⟨some 47, none, .ld (.r 46) 5 0 76 3 true⟩,
    ⟨some 48, none, .ld (.r 7) 7 0 83 3 true⟩,
    ⟨some 49, none, .call false false 41 [(.r 47), (.r 48)]⟩,
    ⟨some 45, none, .mov (.r 49)⟩,
    ⟨some 50, none, .ext (.r 45) 0⟩,
    ⟨some 51, none, .ext (.r 45) 1⟩,
    ⟨some 13, none, .mov (.r 50)⟩,
    ⟨some 14, none, .mov (.r 51)⟩]) 
  (.seq (.reg [⟨some 53, none, .fad (.r 5) 3⟩,
    ⟨some 54, none, .ld (.r 53) 5 3 79 3 true⟩,
    ⟨some 55, none, .ld (.r 9) 9 0 86 3 true⟩,
    ⟨some 56, none, .call false false 41 [(.r 54), (.r 55)]⟩,
    ⟨some 52, none, .mov (.r 56)⟩,
    ⟨some 57, none, .ext (.r 52) 0⟩,
    ⟨some 58, none, .ext (.r 52) 1⟩,
    ⟨some 15, none, .mov (.r 57)⟩,
    ⟨some 16, none, .mov (.r 58)⟩]) 
  (.seq (.reg [⟨some 59, none, .mov (.r 1)⟩,
    ⟨some 60, none, .bin false .eql (.r 59) (.i .i64 0)⟩,
    ⟨some 61, none, .mov (.r 60)⟩,
    ⟨some 62, some (61, true), .mov (.r 13)⟩,
    ⟨some 63, some (61, true), .bin false .eql (.r 62) (.i .i64 0)⟩,
    ⟨some 64, none, .pick (.r 61) (.r 63) (.b false)⟩,
    ⟨some 65, none, .mov (.r 64)⟩,
    ⟨some 66, some (65, true), .mov (.r 15)⟩,
    ⟨some 67, some (65, true), .bin false .eql (.r 66) (.i .i64 0)⟩,
    ⟨some 68, none, .pick (.r 65) (.r 67) (.b false)⟩,
    ⟨some 69, none, .mov (.r 68)⟩,
    ⟨some 70, some (69, true), .fad (.r 5) 6⟩,
    ⟨some 71, some (69, true), .ld (.r 70) 5 6 82 1 false⟩,
    ⟨some 72, some (69, true), .mov (.r 11)⟩,
    ⟨some 73, some (69, true), .bin false .leq (.r 72) (.i .i64 0)⟩,
    ⟨some 74, some (69, true), .bin true .eql (.r 71) (.r 73)⟩,
    ⟨some 75, none, .pick (.r 69) (.r 74) (.b false)⟩,
    ⟨some 10, none, .mov (.r 75)⟩]) 
  (.ret)))))),
  [.tmp 10]⟩
theorem chk14 : chkF Tryz.prog 14 ir14 = true := by kernel_rfl
/-- vernier/cert.Product -/
def ir15 : FnIr := ⟨⟨53, 81, 81, [(4, 53, 3), (5, 56, 3), (6, 59, 3), (8, 62, 7), (10, 69, 3), (12, 72, 6), (13, 78, 3)]⟩,
  .seq (.reg [⟨some 4, none, .box 53 3 (.r 0)⟩,
    ⟨some 5, none, .box 56 3 (.r 1)⟩,
    ⟨some 6, none, .box 59 3 (.r 2)⟩,
    ⟨some 8, none, .mk 62 [.bool false, .nil0, .int .i64 0, .bool false, .nil0, .int .i64 0, .bool false]⟩,
    ⟨some 9, none, .mov (.i .i64 0)⟩]) 
  (.seq (.reg [⟨some 15, none, .ld (.r 4) 4 0 53 3 true⟩,
    ⟨some 16, none, .ld (.r 5) 5 0 56 3 true⟩,
    ⟨some 17, none, .ld (.r 6) 6 0 59 3 true⟩,
    ⟨some 18, none, .call false false 11 [(.r 15), (.r 16), (.r 17)]⟩,
    ⟨some 14, none, .mov (.r 18)⟩,
    ⟨some 19, none, .ext (.r 14) 0⟩,
    ⟨some 20, none, .ext (.r 14) 1⟩,
    ⟨some 10, none, .mk 69 [.bool false, .nil0, .int .i64 0]⟩,
    ⟨none, none, .st (.r 10) 10 0 69 3 (.r 19)⟩,
    ⟨some 11, none, .mov (.r 20)⟩]) 
  (.seq (.seq (.reg [⟨some 21, none, .mov (.r 11)⟩,
    ⟨some 22, none, .bin false .neq (.r 21) (.i .i64 0)⟩]) 
  (.cond (.r 22)
  (.seq (.reg [⟨some 23, none, .bld [] [.bool false, .nil0, .int .i64 0, .bool false, .nil0, .int .i64 0, .bool false]⟩,
     ⟨some 24, none, .mov (.r 11)⟩,
     ⟨none, none, .st (.r 8) 8 0 62 7 (.r 23)⟩,
     ⟨some 9, none, .mov (.r 24)⟩]) 
   (.ret))
  (.skip))) 
  (.seq (.reg [⟨some 26, none, .fad (.r 4) 0⟩,
    ⟨some 27, none, .ld (.r 26) 4 0 53 1 false⟩,
    ⟨some 28, none, .fad (.r 4) 1⟩,
    ⟨some 29, none, .ld (.r 28) 4 1 54 1 false⟩,
    ⟨some 30, none, .fad (.r 5) 1⟩,
    ⟨some 31, none, .ld (.r 30) 5 1 57 1 false⟩,
    ⟨some 32, none, .mov (.r 3)⟩,
    ⟨some 33, none, .call false false 16 [(.r 27), (.r 29), (.r 31), (.r 32)]⟩,
    ⟨some 25, none, .mov (.r 33)⟩,
    ⟨some 34, none, .ext (.r 25) 0⟩,
    ⟨some 35, none, .ext (.r 25) 1⟩,
    ⟨some 12, none, .mk 72 [.bool false, .nil0, .int .i64 0, .bool false, .nil0, .int .i64 0]⟩,
    ⟨none, none, .st (.r 12) 12 0 72 6 (.r 34)⟩,
    ⟨some 11, none, .mov (.r 35)⟩]) 
  (.seq (.seq (.reg [⟨some 36, none, .mov (.r 11)⟩,
    ⟨some 37, none, .bin false .neq (.r 36) (.i .i64 0)⟩]) 
  (.cond (.r 37)
  (.seq (.reg [⟨some 38, none, .bld [] [.bool false, .nil0, .int .i64 0, .bool false, .nil0, .int .i64 0, .bool false]⟩,
     ⟨some 39, none, .mov (.r 11)⟩,
     ⟨none, none, .st (.r 8) 8 0 62 7 (.r 38)⟩,
     ⟨some 9, none, .mov (.r 39)⟩]) 
   (.ret))
  (.skip))) 
  (.seq (.reg [⟨some 41, none, .ld (.r 12) 12 0 72 6 true⟩,
    ⟨some 42, none, .ld (.r 4) 4 0 53 3 true⟩,
    ⟨some 43, none, .ld (.r 5) 5 0 56 3 true⟩,
    ⟨some 44, none, .call false false 42 [(.r 41), (.r 42), (.r 43), (.b false)]⟩,
    ⟨some 40, none, .mov (.r 44)⟩,
    ⟨some 45, none, .ext (.r 40) 0⟩,
    ⟨some 46, none, .ext (.r 40) 1⟩,
    ⟨some 13, none, .mk 78 [.bool false, .nil0, .int .i64 0]⟩,
    ⟨none, none, .st (.r 13) 13 0 78 3 (.r 45)⟩,
    ⟨some 11, none, .mov (.r 46)⟩]) 
  (.seq (.reg [⟨some 47, none, .ld (.r 13) 13 0 78 3 true⟩,
    ⟨some 48, none, .ld (.r 10) 10 0 69 3 true⟩,
    ⟨some 49, none, .mov (.r 11)⟩,
    ⟨some 50, none, .call false false 43 [(.r 47), (.r 48), (.r 49)]⟩,
    ⟨some 51, none, .ext (.r 50) 0⟩,
    ⟨some 52, none, .ext (.r 50) 1⟩,
    ⟨none, none, .st (.r 8) 8 0 62 7 (.r 51)⟩,
    ⟨some 9, none, .mov (.r 52)⟩]) 
  (.ret))))))),
  [.cell 8 8 62 7, .tmp 9]⟩
theorem chk15 : chkF Tryz.prog 15 ir15 = true := by kernel_rfl
/-- vernier/bound.Product -/
def ir16 : FnIr := ⟨⟨25, 31, 31, [(8, 25, 6)]⟩,
  .seq (.reg [⟨some 8, none, .mk 25 [.bool false, .nil0, .int .i64 0, .bool false, .nil0, .int .i64 0]⟩,
    ⟨some 9, none, .mov (.i .i64 0)⟩]) 
  (.seq (.seq (.reg [⟨some 10, none, .mov (.r 3)⟩,
    ⟨some 11, none, .mov (.r 0)⟩,
    ⟨some 12, none, .mov (.r 1)⟩,
    ⟨some 13, none, .mov (.r 2)⟩,
    ⟨some 14, none, .bsl 3 1 false [(0, 1, (.r 11)), (1, 1, (.r 12)), (2, 1, (.r 13))] [.int .i64 0]⟩,
    ⟨some 15, none, .call false false 36 [(.r 10), (.r 14)]⟩]) 
  (.cond (.r 15)
  (.seq (.reg [⟨some 16, none, .bld [] [.bool false, .nil0, .int .i64 0, .bool false, .nil0, .int .i64 0]⟩,
     ⟨none, none, .st (.r 8) 8 0 25 6 (.r 16)⟩,
     ⟨some 9, none, .mov (.i .i64 4)⟩]) 
   (.ret))
  (.skip))) 
  (.seq (.reg [⟨some 17, none, .mov (.r 0)⟩,
    ⟨some 18, none, .mov (.r 1)⟩,
    ⟨some 19, none, .mov (.r 2)⟩,
    ⟨some 20, none, .mov (.r 3)⟩,
    ⟨some 21, none, .call false false 44 [(.r 17), (.r 18), (.r 19), (.r 20)]⟩,
    ⟨some 22, none, .call false false 38 [(.r 21)]⟩,
    ⟨some 23, none, .ext (.r 22) 0⟩,
    ⟨some 24, none, .ext (.r 22) 1⟩,
    ⟨none, none, .st (.r 8) 8 0 25 6 (.r 23)⟩,
    ⟨some 9, none, .mov (.r 24)⟩]) 
  (.ret))),
  [.cell 8 8 25 6, .tmp 9]⟩
theorem chk16 : chkF Tryz.prog 16 ir16 = true := by kernel_rfl
/-- vernier/cert.Lu -/
def ir17 : FnIr := ⟨⟨60, 91, 91, [(4, 60, 3), (5, 63, 3), (8, 66, 7), (10, 73, 3), (12, 76, 6), (13, 82, 3), (14, 85, 3), (16, 88, 3)]⟩,
  .seq (.reg [⟨some 4, none, .box 60 3 (.r 0)⟩,
    ⟨some 5, none, .box 63 3 (.r 1)⟩,
    ⟨some 8, none, .mk 66 [.bool false, .nil0, .int .i64 0, .bool false, .nil0, .int .i64 0, .bool false]⟩,
    ⟨some 9, none, .mov (.i .i64 0)⟩]) 
  (.seq (.reg [⟨some 18, none, .ld (.r 4) 4 0 60 3 true⟩,
    ⟨some 19, none, .ld (.r 5) 5 0 63 3 true⟩,
    ⟨some 20, none, .mov (.r 2)⟩,
    ⟨some 21, none, .call false false 18 [(.r 18), (.r 19), (.r 20)]⟩,
    ⟨some 17, none, .mov (.r 21)⟩,
    ⟨some 22, none, .ext (.r 17) 0⟩,
    ⟨some 23, none, .ext (.r 17) 1⟩,
    ⟨some 10, none, .mk 73 [.bool false, .nil0, .int .i64 0]⟩,
    ⟨none, none, .st (.r 10) 10 0 73 3 (.r 22)⟩,
    ⟨some 11, none, .mov (.r 23)⟩]) 
  (.seq (.seq (.reg [⟨some 24, none, .mov (.r 11)⟩,
    ⟨some 25, none, .bin false .neq (.r 24) (.i .i64 0)⟩]) 
  (.cond (.r 25)
  (.seq (.reg [⟨some 26, none, .bld [] [.bool false, .nil0, .int .i64 0, .bool false, .nil0, .int .i64 0, .bool false]⟩,
     ⟨some 27, none, .mov (.r 11)⟩,
     ⟨none, none, .st (.r 8) 8 0 66 7 (.r 26)⟩,
     ⟨some 9, none, .mov (.r 27)⟩]) 
   (.ret))
  (.skip))) 
  (.seq (.reg [⟨some 29, none, .fad (.r 4) 0⟩,
    ⟨some 30, none, .ld (.r 29) 4 0 60 1 false⟩,
    ⟨some 31, none, .fad (.r 4) 1⟩,
    ⟨some 32, none, .ld (.r 31) 4 1 61 1 false⟩,
    ⟨some 33, none, .mov (.r 3)⟩,
    ⟨some 34, none, .call false false 19 [(.r 30), (.r 32), (.r 33)]⟩,
    ⟨some 28, none, .mov (.r 34)⟩,
    ⟨some 35, none, .ext (.r 28) 0⟩,
    ⟨some 36, none, .ext (.r 28) 1⟩,
    ⟨some 12, none, .mk 76 [.bool false, .nil0, .int .i64 0, .bool false, .nil0, .int .i64 0]⟩,
    ⟨none, none, .st (.r 12) 12 0 76 6 (.r 35)⟩,
    ⟨some 11, none, .mov (.r 36)⟩]) 
  (.seq (.seq (.reg [⟨some 37, none, .mov (.r 11)⟩,
    ⟨some 38, none, .bin false .neq (.r 37) (.i .i64 0)⟩]) 
  (.cond (.r 38)
  (.seq (.reg [⟨some 39, none, .bld [] [.bool false, .nil0, .int .i64 0, .bool false, .nil0, .int .i64 0, .bool false]⟩,
     ⟨some 40, none, .mov (.r 11)⟩,
     ⟨none, none, .st (.r 8) 8 0 66 7 (.r 39)⟩,
     ⟨some 9, none, .mov (.r 40)⟩]) 
   (.ret))
  (.skip))) 
  (.seq (.reg [⟨some 42, none, .ld (.r 5) 5 0 63 3 true⟩,
    ⟨some 43, none, .call false false 20 [(.r 42)]⟩,
    ⟨some 41, none, .mov (.r 43)⟩,
    ⟨some 44, none, .ext (.r 41) 0⟩,
    ⟨some 45, none, .ext (.r 41) 1⟩,
    ⟨some 46, none, .ext (.r 41) 2⟩,
    ⟨some 13, none, .mk 82 [.int .i64 0, .int .i64 0, .nil0]⟩,
    ⟨some 14, none, .mk 85 [.int .i64 0, .int .i64 0, .nil0]⟩,
    ⟨none, none, .st (.r 13) 13 0 82 3 (.r 44)⟩,
    ⟨none, none, .st (.r 14) 14 0 85 3 (.r 45)⟩,
    ⟨some 15, none, .mov (.r 46)⟩]) 
  (.seq (.reg [⟨some 48, none, .ld (.r 12) 12 0 76 6 true⟩,
    ⟨some 49, none, .ld (.r 13) 13 0 82 3 true⟩,
    ⟨some 50, none, .ld (.r 14) 14 0 85 3 true⟩,
    ⟨some 51, none, .call false false 42 [(.r 48), (.r 49), (.r 50), (.b true)]⟩,
    ⟨some 47, none, .mov (.r 51)⟩,
    ⟨some 52, none, .ext (.r 47) 0⟩,
    ⟨some 53, none, .ext (.r 47) 1⟩,
    ⟨some 16, none, .mk 88 [.bool false, .nil0, .int .i64 0]⟩,
    ⟨none, none, .st (.r 16) 16 0 88 3 (.r 52)⟩,
    ⟨some 11, none, .mov (.r 53)⟩]) 
  (.seq (.reg [⟨some 54, none, .ld (.r 16) 16 0 88 3 true⟩,
    ⟨some 55, none, .ld (.r 10) 10 0 73 3 true⟩,
    ⟨some 56, none, .mov (.r 11)⟩,
    ⟨some 57, none, .call false false 43 [(.r 54), (.r 55), (.r 56)]⟩,
    ⟨some 58, none, .ext (.r 57) 0⟩,
    ⟨some 59, none, .ext (.r 57) 1⟩,
    ⟨none, none, .st (.r 8) 8 0 66 7 (.r 58)⟩,
    ⟨some 9, none, .mov (.r 59)⟩]) 
  (.ret)))))))),
  [.cell 8 8 66 7, .tmp 9]⟩
theorem chk17 : chkF Tryz.prog 17 ir17 = true := by kernel_rfl
/-- vernier/resid.Lu -/
def ir18 : FnIr := ⟨⟨67, 85, 85, [(3, 67, 3), (4, 70, 3), (6, 73, 3), (9, 76, 3), (11, 79, 3), (12, 82, 3)]⟩,
  .seq (.reg [⟨some 3, none, .box 67 3 (.r 0)⟩,
    ⟨some 4, none, .box 70 3 (.r 1)⟩,
    ⟨some 6, none, .mk 73 [.bool false, .nil0, .int .i64 0]⟩,
    ⟨some 7, none, .mov (.i .i64 0)⟩]) 
  (.seq (.seq (.reg [⟨some 14, none, .ld (.r 3) 3 0 67 3 true⟩,
    ⟨some 15, none, .ld (.r 4) 4 0 70 3 true⟩,
    ⟨some 16, none, .bsl 2 3 true [(0, 3, (.r 14)), (3, 3, (.r 15))] [.int .i64 0, .int .i64 0, .nil0]⟩,
    ⟨some 17, none, .call false false 31 [(.r 16)]⟩,
    ⟨some 8, none, .mov (.r 17)⟩]) 
  (.seq (.reg [⟨some 18, none, .mov (.r 8)⟩,
    ⟨some 19, none, .bin false .neq (.r 18) (.i .i64 0)⟩]) 
  (.cond (.r 19)
  (.seq (.reg [⟨some 20, none, .bld [] [.bool false, .nil0, .int .i64 0]⟩,
     ⟨some 21, none, .mov (.r 8)⟩,
     ⟨none, none, .st (.r 6) 6 0 73 3 (.r 20)⟩,
     ⟨some 7, none, .mov (.r 21)⟩]) 
   (.ret))
  (.skip)))) 
  (.seq (.seq (.reg [⟨some 22, none, .fad (.r 3) 0⟩,
    ⟨some 23, none, .ld (.r 22) 3 0 67 1 false⟩,
    ⟨some 24, none, .fad (.r 4) 0⟩,
    ⟨some 25, none, .ld (.r 24) 4 0 70 1 false⟩,
    ⟨some 26, none, .bin false .neq (.r 23) (.r 25)⟩,
    ⟨some 27, none, .mov (.r 26)⟩,
    ⟨some 28, some (27, false), .fad (.r 3) 1⟩,
    ⟨some 29, some (27, false), .ld (.r 28) 3 1 68 1 false⟩,
    ⟨some 30, some (27, false), .fad (.r 4) 1⟩,
    ⟨some 31, some (27, false), .ld (.r 30) 4 1 71 1 false⟩,
    ⟨some 32, some (27, false), .bin false .neq (.r 29) (.r 31)⟩,
    ⟨some 33, none, .pick (.r 27) (.b true) (.r 32)⟩,
    ⟨some 34, none, .mov (.r 33)⟩,
    ⟨some 35, some (34, false), .fad (.r 3) 0⟩,
    ⟨some 36, some (34, false), .ld (.r 35) 3 0 67 1 false⟩,
    ⟨some 37, some (34, false), .fad (.r 3) 1⟩,
    ⟨some 38, some (34, false), .ld (.r 37) 3 1 68 1 false⟩,
    ⟨some 39, some (34, false), .bin false .lss (.r 36) (.r 38)⟩,
    ⟨some 40, none, .pick (.r 34) (.b true) (.r 39)⟩]) 
  (.cond (.r 40)
  (.seq (.reg [⟨some 41, none, .bld [] [.bool false, .nil0, .int .i64 0]⟩,
     ⟨none, none, .st (.r 6) 6 0 73 3 (.r 41)⟩,
     ⟨some 7, none, .mov (.i .i64 11)⟩]) 
   (.ret))
  (.skip))) 
  (.seq (.reg [⟨some 43, none, .ld (.r 3) 3 0 67 3 true⟩,
    ⟨some 44, none, .mov (.r 2)⟩,
    ⟨some 45, none, .call false false 45 [(.r 43), (.r 44)]⟩,
    ⟨some 42, none, .mov (.r 45)⟩,
    ⟨some 46, none, .ext (.r 42) 0⟩,
    ⟨some 47, none, .ext (.r 42) 1⟩,
    ⟨some 9, none, .mk 76 [.int .i64 0, .int .i64 0, .nil0]⟩,
    ⟨none, none, .st (.r 9) 9 0 76 3 (.r 46)⟩,
    ⟨some 10, none, .mov (.r 47)⟩]) 
  (.seq (.seq (.reg [⟨some 48, none, .mov (.r 10)⟩,
    ⟨some 49, none, .bin false .neq (.r 48) (.i .i64 0)⟩]) 
  (.cond (.r 49)
  (.seq (.reg [⟨some 50, none, .bld [] [.bool false, .nil0, .int .i64 0]⟩,
     ⟨some 51, none, .mov (.r 10)⟩,
     ⟨none, none, .st (.r 6) 6 0 73 3 (.r 50)⟩,
     ⟨some 7, none, .mov (.r 51)⟩]) 
   (.ret))
  (.skip))) 
  (.seq (.reg [⟨some 53, none, .ld (.r 4) 4 0 70 3 true⟩,
    ⟨some 54, none, .call false false 20 [(.r 53)]⟩,
    ⟨some 52, none, .mov (.r 54)⟩,
    ⟨some 55, none, .ext (.r 52) 0⟩,
    ⟨some 56, none, .ext (.r 52) 1⟩,
    ⟨some 57, none, .ext (.r 52) 2⟩,
    ⟨some 11, none, .mk 79 [.int .i64 0, .int .i64 0, .nil0]⟩,
    ⟨some 12, none, .mk 82 [.int .i64 0, .int .i64 0, .nil0]⟩,
    ⟨none, none, .st (.r 11) 11 0 79 3 (.r 55)⟩,
    ⟨none, none, .st (.r 12) 12 0 82 3 (.r 56)⟩,
    ⟨some 13, none, .mov (.r 57)⟩]) 
  (.seq (.reg [⟨some 58, none, .ld (.r 9) 9 0 76 3 true⟩,
    ⟨some 59, none, .call false false 32 [(.r 58)]⟩,
    ⟨some 60, none, .ld (.r 11) 11 0 79 3 true⟩,
    ⟨some 61, none, .call false false 32 [(.r 60)]⟩,
    ⟨some 62, none, .ld (.r 12) 12 0 82 3 true⟩,
    ⟨some 63, none, .call false false 32 [(.r 62)]⟩,
    ⟨some 64, none, .call false false 34 [(.r 61), (.r 63)]⟩,
    ⟨some 65, none, .call false false 33 [(.r 59), (.r 64)]⟩,
    ⟨some 66, none, .call false false 35 [(.r 65)]⟩,
    ⟨none, none, .st (.r 6) 6 0 73 3 (.r 66)⟩,
    ⟨some 7, none, .mov (.i .i64 0)⟩]) 
  (.ret))))))),
  [.cell 6 6 73 3, .tmp 7]⟩
theorem chk18 : chkF Tryz.prog 18 ir18 = true := by kernel_rfl
/-- vernier/bound.Lu -/
def ir19 : FnIr := ⟨⟨26, 32, 32, [(6, 26, 6)]⟩,
  .seq (.reg [⟨some 6, none, .mk 26 [.bool false, .nil0, .int .i64 0, .bool false, .nil0, .int .i64 0]⟩,
    ⟨some 7, none, .mov (.i .i64 0)⟩]) 
  (.seq (.seq (.reg [⟨some 8, none, .mov (.r 2)⟩,
    ⟨some 9, none, .mov (.r 0)⟩,
    ⟨some 10, none, .mov (.r 1)⟩,
    ⟨some 11, none, .bsl 2 1 false [(0, 1, (.r 9)), (1, 1, (.r 10))] [.int .i64 0]⟩,
    ⟨some 12, none, .call false false 36 [(.r 8), (.r 11)]⟩,
    ⟨some 13, none, .mov (.r 12)⟩,
    ⟨some 14, some (13, false), .mov (.r 0)⟩,
    ⟨some 15, some (13, false), .mov (.r 1)⟩,
    ⟨some 16, some (13, false), .bin false .lss (.r 14) (.r 15)⟩,
    ⟨some 17, none, .pick (.r 13) (.b true) (.r 16)⟩]) 
  (.cond (.r 17)
  (.seq (.reg [⟨some 18, none, .bld [] [.bool false, .nil0, .int .i64 0, .bool false, .nil0, .int .i64 0]⟩,
     ⟨none, none, .st (.r 6) 6 0 26 6 (.r 18)⟩,
     ⟨some 7, none, .mov (.i .i64 4)⟩]) 
   (.ret))
  (.skip))) 
  (.seq (.reg [⟨some 19, none, .mov (.r 0)⟩,
    ⟨some 20, none, .mov (.r 1)⟩,
    ⟨some 21, none, .mov (.r 2)⟩,
    ⟨some 22, none, .call false false 46 [(.r 19), (.r 20), (.r 21)]⟩,
    ⟨some 23, none, .call false false 38 [(.r 22)]⟩,
    ⟨some 24, none, .ext (.r 23) 0⟩,
    ⟨some 25, none, .ext (.r 23) 1⟩,
    ⟨none, none, .st (.r 6) 6 0 26 6 (.r 24)⟩,
    ⟨some 7, none, .mov (.r 25)⟩]) 
  (.ret))),
  [.cell 6 6 26 6, .tmp 7]⟩
theorem chk19 : chkF Tryz.prog 19 ir19 = true := by kernel_rfl
/-- vernier/lu.Split -/
def ir20 : FnIr := ⟨⟨47, 65, 65, [(1, 47, 3), (2, 50, 3), (3, 53, 3), (6, 56, 3), (8, 59, 3), (10, 62, 3)]⟩,
  .seq (.reg [⟨some 1, none, .box 47 3 (.r 0)⟩,
    ⟨some 2, none, .mk 50 [.int .i64 0, .int .i64 0, .nil0]⟩,
    ⟨some 3, none, .mk 53 [.int .i64 0, .int .i64 0, .nil0]⟩,
    ⟨some 4, none, .mov (.i .i64 0)⟩]) 
  (.seq (.seq (.reg [⟨some 12, none, .ld (.r 1) 1 0 47 3 true⟩,
    ⟨some 13, none, .call false false 25 [(.r 12)]⟩,
    ⟨some 5, none, .mov (.r 13)⟩]) 
  (.seq (.reg [⟨some 14, none, .mov (.r 5)⟩,
    ⟨some 15, none, .bin false .neq (.r 14) (.i .i64 0)⟩]) 
  (.cond (.r 15)
  (.seq (.reg [⟨some 16, none, .bld [] [.int .i64 0, .int .i64 0, .nil0]⟩,
     ⟨some 17, none, .bld [] [.int .i64 0, .int .i64 0, .nil0]⟩,
     ⟨some 18, none, .mov (.r 5)⟩,
     ⟨none, none, .st (.r 2) 2 0 50 3 (.r 16)⟩,
     ⟨none, none, .st (.r 3) 3 0 53 3 (.r 17)⟩,
     ⟨some 4, none, .mov (.r 18)⟩]) 
   (.ret))
  (.skip)))) 
  (.seq (.seq (.reg [⟨some 19, none, .fad (.r 1) 0⟩,
    ⟨some 20, none, .ld (.r 19) 1 0 47 1 false⟩,
    ⟨some 21, none, .fad (.r 1) 1⟩,
    ⟨some 22, none, .ld (.r 21) 1 1 48 1 false⟩,
    ⟨some 23, none, .bin false .lss (.r 20) (.r 22)⟩]) 
  (.cond (.r 23)
  (.seq (.reg [⟨some 24, none, .bld [] [.int .i64 0, .int .i64 0, .nil0]⟩,
     ⟨some 25, none, .bld [] [.int .i64 0, .int .i64 0, .nil0]⟩,
     ⟨none, none, .st (.r 2) 2 0 50 3 (.r 24)⟩,
     ⟨none, none, .st (.r 3) 3 0 53 3 (.r 25)⟩,
     ⟨some 4, none, .mov (.i .i64 11)⟩]) 
   (.ret))
  (.skip))) 
  (.seq (.reg [⟨some 27, none, .ld (.r 1) 1 0 47 3 true⟩,
    ⟨some 28, none, .call false false 10 [(.r 27), (.b false), (.b true)]⟩,
    ⟨some 26, none, .mov (.r 28)⟩,
    ⟨some 29, none, .ext (.r 26) 0⟩,
    ⟨some 30, none, .ext (.r 26) 1⟩,
    ⟨some 6, none, .mk 56 [.int .i64 0, .int .i64 0, .nil0]⟩,
    ⟨none, none, .st (.r 6) 6 0 56 3 (.r 29)⟩,
    ⟨some 7, none, .mov (.r 30)⟩]) 
  (.seq (.reg [⟨some 32, none, .ld (.r 1) 1 0 47 3 true⟩,
    ⟨some 33, none, .fad (.r 1) 1⟩,
    ⟨some 34, none, .ld (.r 33) 1 1 48 1 false⟩,
    ⟨some 35, none, .fad (.r 1) 1⟩,
    ⟨some 36, none, .ld (.r 35) 1 1 48 1 false⟩,
    ⟨some 37, none, .call false false 47 [(.r 32), (.i .i64 0), (.i .i64 0), (.r 34), (.r 36)]⟩,
    ⟨some 31, none, .mov (.r 37)⟩,
    ⟨some 38, none, .ext (.r 31) 0⟩,
    ⟨some 39, none, .ext (.r 31) 1⟩,
    ⟨some 8, none, .mk 59 [.int .i64 0, .int .i64 0, .nil0]⟩,
    ⟨none, none, .st (.r 8) 8 0 59 3 (.r 38)⟩,
    ⟨some 9, none, .mov (.r 39)⟩]) 
  (.seq (.reg [⟨some 41, none, .ld (.r 8) 8 0 59 3 true⟩,
    ⟨some 42, none, .call false false 10 [(.r 41), (.b true), (.b false)]⟩,
    ⟨some 40, none, .mov (.r 42)⟩,
    ⟨some 43, none, .ext (.r 40) 0⟩,
    ⟨some 44, none, .ext (.r 40) 1⟩,
    ⟨some 10, none, .mk 62 [.int .i64 0, .int .i64 0, .nil0]⟩,
    ⟨none, none, .st (.r 10) 10 0 62 3 (.r 43)⟩,
    ⟨some 11, none, .mov (.r 44)⟩]) 
  (.seq (.reg [⟨some 45, none, .ld (.r 6) 6 0 56 3 true⟩,
    ⟨some 46, none, .ld (.r 10) 10 0 62 3 true⟩,
    ⟨none, none, .st (.r 2) 2 0 50 3 (.r 45)⟩,
    ⟨none, none, .st (.r 3) 3 0 53 3 (.r 46)⟩,
    ⟨some 4, none, .mov (.i .i64 0)⟩]) 
  (.ret))))))),
  [.cell 2 2 50 3, .cell 3 3 53 3, .tmp 4]⟩
theorem chk20 : chkF Tryz.prog 20 ir20 = true := by kernel_rfl
/-- vernier/cert.Chol -/
def ir21 : FnIr := ⟨⟨46, 71, 71, [(3, 46, 3), (4, 49, 3), (6, 52, 7), (8, 59, 3), (10, 62, 6), (11, 68, 3)]⟩,
  .seq (.reg [⟨some 3, none, .box 46 3 (.r 0)⟩,
    ⟨some 4, none, .box 49 3 (.r 1)⟩,
    ⟨some 6, none, .mk 52 [.bool false, .nil0, .int .i64 0, .bool false, .nil0, .int .i64 0, .bool false]⟩,
    ⟨some 7, none, .mov (.i .i64 0)⟩]) 
  (.seq (.reg [⟨some 13, none, .ld (.r 3) 3 0 46 3 true⟩,
    ⟨some 14, none, .ld (.r 4) 4 0 49 3 true⟩,
    ⟨some 15, none, .call false false 22 [(.r 13), (.r 14)]⟩,
    ⟨some 12, none, .mov (.r 15)⟩,
    ⟨some 16, none, .ext (.r 12) 0⟩,
    ⟨some 17, none, .ext (.r 12) 1⟩,
    ⟨some 8, none, .mk 59 [.bool false, .nil0, .int .i64 0]⟩,
    ⟨none, none, .st (.r 8) 8 0 59 3 (.r 16)⟩,
    ⟨some 9, none, .mov (.r 17)⟩]) 
  (.seq (.seq (.reg [⟨some 18, none, .mov (.r 9)⟩,
    ⟨some 19, none, .bin false .neq (.r 18) (.i .i64 0)⟩]) 
  (.cond (.r 19)
  (.seq (.reg [⟨some 20, none, .bld [] [.bool false, .nil0, .int .i64 0, .bool false, .nil0, .int .i64 0, .bool false]⟩,
     ⟨some 21, none, .mov (.r 9)⟩,
     ⟨none, none, .st (.r 6) 6 0 52 7 (.r 20)⟩,
     ⟨some 7, none, .mov (.r 21)⟩]) 
   (.ret))
  (.skip))) 
  (.seq (.reg [⟨some 23, none, .fad (.r 3) 0⟩,
    ⟨some 24, none, .ld (.r 23) 3 0 46 1 false⟩,
    ⟨some 25, none, .mov (.r 2)⟩,
    ⟨some 26, none, .call false false 23 [(.r 24), (.r 25)]⟩,
    ⟨some 22, none, .mov (.r 26)⟩,
    ⟨some 27, none, .ext (.r 22) 0⟩,
    ⟨some 28, none, .ext (.r 22) 1⟩,
    ⟨some 10, none, .mk 62 [.bool false, .nil0, .int .i64 0, .bool false, .nil0, .int .i64 0]⟩,
    ⟨none, none, .st (.r 10) 10 0 62 6 (.r 27)⟩,
    ⟨some 9, none, .mov (.r 28)⟩]) 
  (.seq (.seq (.reg [⟨some 29, none, .mov (.r 9)⟩,
    ⟨some 30, none, .bin false .neq (.r 29) (.i .i64 0)⟩]) 
  (.cond (.r 30)
  (.seq (.reg [⟨some 31, none, .bld [] [.bool false, .nil0, .int .i64 0, .bool false, .nil0, .int .i64 0, .bool false]⟩,
     ⟨some 32, none, .mov (.r 9)⟩,
     ⟨none, none, .st (.r 6) 6 0 52 7 (.r 31)⟩,
     ⟨some 7, none, .mov (.r 32)⟩]) 
   (.ret))
  (.skip))) 
  (.seq (.reg [⟨some 34, none, .ld (.r 10) 10 0 62 6 true⟩,
    ⟨some 35, none, .ld (.r 4) 4 0 49 3 true⟩,
    ⟨some 36, none, .ld (.r 4) 4 0 49 3 true⟩,
    ⟨some 37, none, .call false false 42 [(.r 34), (.r 35), (.r 36), (.b true)]⟩,
    ⟨some 33, none, .mov (.r 37)⟩,
    ⟨some 38, none, .ext (.r 33) 0⟩,
    ⟨some 39, none, .ext (.r 33) 1⟩,
    ⟨some 11, none, .mk 68 [.bool false, .nil0, .int .i64 0]⟩,
    ⟨none, none, .st (.r 11) 11 0 68 3 (.r 38)⟩,
    ⟨some 9, none, .mov (.r 39)⟩]) 
  (.seq (.reg [⟨some 40, none, .ld (.r 11) 11 0 68 3 true⟩,
    ⟨some 41, none, .ld (.r 8) 8 0 59 3 true⟩,
    ⟨some 42, none, .mov (.r 9)⟩,
    ⟨some 43, none, .call false false 43 [(.r 40), (.r 41), (.r 42)]⟩,
    ⟨some 44, none, .ext (.r 43) 0⟩,
    ⟨some 45, none, .ext (.r 43) 1⟩,
    ⟨none, none, .st (.r 6) 6 0 52 7 (.r 44)⟩,
    ⟨some 7, none, .mov (.r 45)⟩]) 
  (.ret))))))),
  [.cell 6 6 52 7, .tmp 7]⟩
theorem chk21 : chkF Tryz.prog 21 ir21 = true := by kernel_rfl
/-- vernier/resid.Chol -/
def ir22 : FnIr := ⟨⟨46, 58, 58, [(2, 46, 3), (3, 49, 3), (4, 52, 3), (7, 55, 3)]⟩,
  .seq (.reg [⟨some 2, none, .box 46 3 (.r 0)⟩,
    ⟨some 3, none, .box 49 3 (.r 1)⟩,
    ⟨some 4, none, .mk 52 [.bool false, .nil0, .int .i64 0]⟩,
    ⟨some 5, none, .mov (.i .i64 0)⟩]) 
  (.seq (.seq (.reg [⟨some 8, none, .ld (.r 2) 2 0 46 3 true⟩,
    ⟨some 9, none, .ld (.r 3) 3 0 49 3 true⟩,
    ⟨some 10, none, .bsl 2 3 true [(0, 3, (.r 8)), (3, 3, (.r 9))] [.int .i64 0, .int .i64 0, .nil0]⟩,
    ⟨some 11, none, .call false false 31 [(.r 10)]⟩,
    ⟨some 6, none, .mov (.r 11)⟩]) 
  (.seq (.reg [⟨some 12, none, .mov (.r 6)⟩,
    ⟨some 13, none, .bin false .neq (.r 12) (.i .i64 0)⟩]) 
  (.cond (.r 13)
  (.seq (.reg [⟨some 14, none, .bld [] [.bool false, .nil0, .int .i64 0]⟩,
     ⟨some 15, none, .mov (.r 6)⟩,
     ⟨none, none, .st (.r 4) 4 0 52 3 (.r 14)⟩,
     ⟨some 5, none, .mov (.r 15)⟩]) 
   (.ret))
  (.skip)))) 
  (.seq (.seq (.reg [⟨some 16, none, .fad (.r 2) 0⟩,
    ⟨some 17, none, .ld (.r 16) 2 0 46 1 false⟩,
    ⟨some 18, none, .fad (.r 2) 1⟩,
    ⟨some 19, none, .ld (.r 18) 2 1 47 1 false⟩,
    ⟨some 20, none, .bin false .neq (.r 17) (.r 19)⟩,
    ⟨some 21, none, .mov (.r 20)⟩,
    ⟨some 22, some (21, false), .fad (.r 3) 0⟩,
    ⟨some 23, some (21, false), .ld (.r 22) 3 0 49 1 false⟩,
    ⟨some 24, some (21, false), .fad (.r 2) 0⟩,
    ⟨some 25, some (21, false), .ld (.r 24) 2 0 46 1 false⟩,
    ⟨some 26, some (21, false), .bin false .neq (.r 23) (.r 25)⟩,
    ⟨some 27, none, .pick (.r 21) (.b true) (.r 26)⟩,
    ⟨some 28, none, .mov (.r 27)⟩,
    ⟨some 29, some (28, false), .fad (.r 3) 1⟩,
    ⟨some 30, some (28, false), .ld (.r 29) 3 1 50 1 false⟩,
    ⟨some 31, some (28, false), .fad (.r 2) 0⟩,
    ⟨some 32, some (28, false), .ld (.r 31) 2 0 46 1 false⟩,
    ⟨some 33, some (28, false), .bin false .neq (.r 30) (.r 32)⟩,
    ⟨some 34, none, .pick (.r 28) (.b true) (.r 33)⟩]) 
  (.cond (.r 34)
  (.seq (.reg [⟨some 35, none, .bld [] [.bool false, .nil0, .int .i64 0]⟩,
     ⟨none, none, .st (.r 4) 4 0 52 3 (.r 35)⟩,
     ⟨some 5, none, .mov (.i .i64 11)⟩]) 
   (.ret))
  (.skip))) 
  (.seq (.reg [⟨some 36, none, .ld (.r 3) 3 0 49 3 true⟩,
    ⟨some 37, none, .call false false 32 [(.r 36)]⟩,
    ⟨some 7, none, .mk 55 [.int .i64 0, .int .i64 0, .nil0]⟩,
    ⟨none, none, .st (.r 7) 7 0 55 3 (.r 37)⟩]) 
  (.seq (.reg [⟨some 38, none, .ld (.r 2) 2 0 46 3 true⟩,
    ⟨some 39, none, .call false false 32 [(.r 38)]⟩,
    ⟨some 40, none, .ld (.r 7) 7 0 55 3 true⟩,
    ⟨some 41, none, .ld (.r 7) 7 0 55 3 true⟩,
    ⟨some 42, none, .call false false 48 [(.r 41)]⟩,
    ⟨some 43, none, .call false false 34 [(.r 40), (.r 42)]⟩,
    ⟨some 44, none, .call false false 33 [(.r 39), (.r 43)]⟩,
    ⟨some 45, none, .call false false 35 [(.r 44)]⟩,
    ⟨none, none, .st (.r 4) 4 0 52 3 (.r 45)⟩,
    ⟨some 5, none, .mov (.i .i64 0)⟩]) 
  (.ret))))),
  [.cell 4 4 52 3, .tmp 5]⟩
theorem chk22 : chkF Tryz.prog 22 ir22 = true := by kernel_rfl
/-- vernier/bound.Chol -/
def ir23 : FnIr := ⟨⟨17, 23, 23, [(4, 17, 6)]⟩,
  .seq (.reg [⟨some 4, none, .mk 17 [.bool false, .nil0, .int .i64 0, .bool false, .nil0, .int .i64 0]⟩,
    ⟨some 5, none, .mov (.i .i64 0)⟩]) 
  (.seq (.seq (.reg [⟨some 6, none, .mov (.r 1)⟩,
    ⟨some 7, none, .mov (.r 0)⟩,
    ⟨some 8, none, .bsl 1 1 false [(0, 1, (.r 7))] [.int .i64 0]⟩,
    ⟨some 9, none, .call false false 36 [(.r 6), (.r 8)]⟩]) 
  (.cond (.r 9)
  (.seq (.reg [⟨some 10, none, .bld [] [.bool false, .nil0, .int .i64 0, .bool false, .nil0, .int .i64 0]⟩,
     ⟨none, none, .st (.r 4) 4 0 17 6 (.r 10)⟩,
     ⟨some 5, none, .mov (.i .i64 4)⟩]) 
   (.ret))
  (.skip))) 
  (.seq (.reg [⟨some 11, none, .mov (.r 0)⟩,
    ⟨some 12, none, .mov (.r 1)⟩,
    ⟨some 13, none, .call false false 49 [(.r 11), (.r 12)]⟩,
    ⟨some 14, none, .call false false 38 [(.r 13)]⟩,
    ⟨some 15, none, .ext (.r 14) 0⟩,
    ⟨some 16, none, .ext (.r 14) 1⟩,
    ⟨none, none, .st (.r 4) 4 0 17 6 (.r 15)⟩,
    ⟨some 5, none, .mov (.r 16)⟩]) 
  (.ret))),
  [.cell 4 4 17 6, .tmp 5]⟩
theorem chk23 : chkF Tryz.prog 23 ir23 = true := by kernel_rfl
/-- (vernier/cert.system).report -/
def ir24 : FnIr := ⟨⟨90, 127, 127, [(4, 90, 3), (5, 93, 3), (6, 96, 3), (7, 99, 3), (8, 102, 7), (11, 109, 3), (13, 112, 3), (15, 115, 3), (17, 118, 6), (18, 124, 3)]⟩,
  .seq (.reg [⟨some 4, none, .box 90 3 (.r 0)⟩,
    ⟨some 5, none, .box 93 3 (.r 1)⟩,
    ⟨some 6, none, .box 96 3 (.r 2)⟩,
    ⟨some 7, none, .box 99 3 (.r 3)⟩,
    ⟨some 8, none, .mk 102 [.bool false, .nil0, .int .i64 0, .bool false, .nil0, .int .i64 0, .bool false]⟩,
    ⟨some 9, none, .mov (.i .i64 0)⟩]) 
  (.seq (.seq (.reg [⟨some 19, none, .ld (.r 5) 5 0 93 3 true⟩,
    ⟨some 20, none, .ld (.r 6) 6 0 96 3 true⟩,
    ⟨some 21, none, .ld (.r 7) 7 0 99 3 true⟩,
    ⟨some 22, none, .bld [(0, 3, (.r 19)), (3, 3, (.r 20)), (6, 3, (.r 21))] [.int .i64 0, .int .i64 0, .nil0, .int .i64 0, .int .i64 0, .nil0, .int .i64 0, .int .i64 0, .nil0]⟩,
    ⟨some 23, none, .mov (.i .i64 0)⟩]) 
  (.block 0 (.kil ⟨[11, 12, 24, 25, 26, 27, 28, 29, 30, 31, 32, 109, 110, 111], [11], [], []⟩ (.loop ⟨[11, 12, 24, 25, 26, 27, 28, 29, 30, 31, 32, 109, 110, 111], [11], [], []⟩ (.seq (.reg [⟨some 24, none, .bin false .lss (.r 23) (.i .i64 3)⟩]) 
    (.seq (.cond (.r 24)
    (.skip)
    (.exit 0)) 
    (.seq (.block 1 (.seq (.reg [⟨some 25, none, .idx (.r 22) (.r 23) 3 3⟩,
       ⟨some 11, none, .mk 109 [.int .i64 0, .int .i64 0, .nil0]⟩,
       ⟨none, none, .st (.r 11) 11 0 109 3 (.r 25)⟩]) 
     (.seq (.reg [⟨some 26, none, .ld (.r 11) 11 0 109 3 true⟩,
       ⟨some 27, none, .call false false 9 [(.r 26)]⟩,
       ⟨some 12, none, .mov (.r 27)⟩]) 
     (.seq (.reg [⟨some 28, none, .mov (.r 12)⟩,
       ⟨some 29, none, .bin false .neq (.r 28) (.i .i64 0)⟩]) 
     (.cond (.r 29)
     (.seq (.reg [⟨some 30, none, .bld [] [.bool false, .nil0, .int .i64 0, .bool false, .nil0, .int .i64 0, .bool false]⟩,
        ⟨some 31, none, .mov (.r 12)⟩,
        ⟨none, none, .st (.r 8) 8 0 102 7 (.r 30)⟩,
        ⟨some 9, none, .mov (.r 31)⟩]) 
      (.ret))
     (.skip)))))) 
    (.reg [⟨some 32, none, .bin false .add (.r 23) (.i .i64 1)⟩,
      ⟨some 23, none, .mov (.r 32)⟩])))))))) 
  (.seq (.reg [⟨some 34, none, .ld (.r 5) 5 0 93 3 true⟩,
    ⟨some 35, none, .fad (.r 4) 1⟩,
    ⟨some 36, none, .ld (.r 35) 4 1 91 1 false⟩,
    ⟨some 37, none, .fad (.r 4) 0⟩,
    ⟨some 38, none, .ld (.r 37) 4 0 90 1 false⟩,
    ⟨some 39, none, .call false false 10 [(.r 34), (.r 36), (.r 38)]⟩,
    ⟨some 33, none, .mov (.r 39)⟩,
    ⟨some 40, none, .ext (.r 33) 0⟩,
    ⟨some 41, none, .ext (.r 33) 1⟩,
    ⟨some 13, none, .mk 112 [.int .i64 0, .int .i64 0, .nil0]⟩,
    ⟨none, none, .st (.r 13) 13 0 112 3 (.r 40)⟩,
    ⟨some 14, none, .mov (.r 41)⟩]) 
  (.seq (.seq (.reg [⟨some 42, none, .fad (.r 5) 0⟩,
    ⟨some 43, none, .ld (.r 42) 5 0 93 1 false⟩,
    ⟨some 44, none, .fad (.r 5) 1⟩,
    ⟨some 45, none, .ld (.r 44) 5 1 94 1 false⟩,
    ⟨some 46, none, .bin false .neq (.r 43) (.r 45)⟩]) 
  (.cond (.r 46)
  (.seq (.reg [⟨some 47, none, .bld [] [.bool false, .nil0, .int .i64 0, .bool false, .nil0, .int .i64 0, .bool false]⟩,
     ⟨none, none, .st (.r 8) 8 0 102 7 (.r 47)⟩,
     ⟨some 9, none, .mov (.i .i64 11)⟩]) 
   (.ret))
  (.skip))) 
  (.seq (.reg [⟨some 49, none, .ld (.r 13) 13 0 112 3 true⟩,
    ⟨some 50, none, .ld (.r 7) 7 0 99 3 true⟩,
    ⟨some 51, none, .ld (.r 6) 6 0 96 3 true⟩,
    ⟨some 52, none, .call false false 11 [(.r 49), (.r 50), (.r 51)]⟩,
    ⟨some 48, none, .mov (.r 52)⟩,
    ⟨some 53, none, .ext (.r 48) 0⟩,
    ⟨some 54, none, .ext (.r 48) 1⟩,
    ⟨some 15, none, .mk 115 [.bool false, .nil0, .int .i64 0]⟩,
    ⟨none, none, .st (.r 15) 15 0 115 3 (.r 53)⟩,
    ⟨some 16, none, .mov (.r 54)⟩]) 
  (.seq (.seq (.reg [⟨some 55, none, .mov (.r 16)⟩,
    ⟨some 56, none, .bin false .neq (.r 55) (.i .i64 0)⟩]) 
  (.cond (.r 56)
  (.seq (.reg [⟨some 57, none, .bld [] [.bool false, .nil0, .int .i64 0, .bool false, .nil0, .int .i64 0, .bool false]⟩,
     ⟨some 58, none, .mov (.r 16)⟩,
     ⟨none, none, .st (.r 8) 8 0 102 7 (.r 57)⟩,
     ⟨some 9, none, .mov (.r 58)⟩]) 
   (.ret))
  (.skip))) 
  (.seq (.reg [⟨some 60, none, .fad (.r 5) 0⟩,
    ⟨some 61, none, .ld (.r 60) 5 0 93 1 false⟩,
    ⟨some 62, none, .fad (.r 7) 1⟩,
    ⟨some 63, none, .ld (.r 62) 7 1 100 1 false⟩,
    ⟨some 64, none, .fad (.r 4) 1⟩,
    ⟨some 65, none, .ld (.r 64) 4 1 91 1 false⟩,
    ⟨some 66, none, .fad (.r 4) 0⟩,
    ⟨some 67, none, .ld (.r 66) 4 0 90 1 false⟩,
    ⟨some 68, none, .fad (.r 4) 2⟩,
    ⟨some 69, none, .ld (.r 68) 4 2 92 1 false⟩,
    ⟨some 70, none, .call false false 12 [(.r 61), (.r 63), (.r 65), (.r 67), (.r 69)]⟩,
    ⟨some 59, none, .mov (.r 70)⟩,
    ⟨some 71, none, .ext (.r 59) 0⟩,
    ⟨some 72, none, .ext (.r 59) 1⟩,
    ⟨some 17, none, .mk 118 [.bool false, .nil0, .int .i64 0, .bool false, .nil0, .int .i64 0]⟩,
    ⟨none, none, .st (.r 17) 17 0 118 6 (.r 71)⟩,
    ⟨some 16, none, .mov (.r 72)⟩]) 
  (.seq (.seq (.reg [⟨some 73, none, .mov (.r 16)⟩,
    ⟨some 74, none, .bin false .neq (.r 73) (.i .i64 0)⟩]) 
  (.cond (.r 74)
  (.seq (.reg [⟨some 75, none, .bld [] [.bool false, .nil0, .int .i64 0, .bool false, .nil0, .int .i64 0, .bool false]⟩,
     ⟨some 76, none, .mov (.r 16)⟩,
     ⟨none, none, .st (.r 8) 8 0 102 7 (.r 75)⟩,
     ⟨some 9, none, .mov (.r 76)⟩]) 
   (.ret))
  (.skip))) 
  (.seq (.reg [⟨some 78, none, .ld (.r 17) 17 0 118 6 true⟩,
    ⟨some 79, none, .ld (.r 13) 13 0 112 3 true⟩,
    ⟨some 80, none, .ld (.r 7) 7 0 99 3 true⟩,
    ⟨some 81, none, .call false false 42 [(.r 78), (.r 79), (.r 80), (.b true)]⟩,
    ⟨some 77, none, .mov (.r 81)⟩,
    ⟨some 82, none, .ext (.r 77) 0⟩,
    ⟨some 83, none, .ext (.r 77) 1⟩,
    ⟨some 18, none, .mk 124 [.bool false, .nil0, .int .i64 0]⟩,
    ⟨none, none, .st (.r 18) 18 0 124 3 (.r 82)⟩,
    ⟨some 16, none, .mov (.r 83)⟩]) 
  (.seq (.reg [⟨some 84, none, .ld (.r 18) 18 0 124 3 true⟩,
    ⟨some 85, none, .ld (.r 15) 15 0 115 3 true⟩,
    ⟨some 86, none, .mov (.r 16)⟩,
    ⟨some 87, none, .call false false 43 [(.r 84), (.r 85), (.r 86)]⟩,
    ⟨some 88, none, .ext (.r 87) 0⟩,
    ⟨some 89, none, .ext (.r 87) 1⟩,
    ⟨none, none, .st (.r 8) 8 0 102 7 (.r 88)⟩,
    ⟨some 9, none, .mov (.r 89)⟩]) 
  (.ret)))))))))),
  [.cell 8 8 102 7, .tmp 9]⟩
theorem chk24 : chkF Tryz.prog 24 ir24 = true := by kernel_rfl
/-- vernier/shape.Check -/
def ir25 : FnIr := ⟨⟨24, 27, 27, [(1, 24, 3)]⟩,
  .seq (.reg [⟨some 1, none, .box 24 3 (.r 0)⟩,
    ⟨some 2, none, .mov (.i .i64 0)⟩]) 
  (.seq (.seq (.reg [⟨some 3, none, .fad (.r 1) 0⟩,
    ⟨some 4, none, .ld (.r 3) 1 0 24 1 false⟩,
    ⟨some 5, none, .call false false 50 [(.r 4)]⟩,
    ⟨some 6, none, .un .not (.r 5)⟩,
    ⟨some 7, none, .mov (.r 6)⟩,
    ⟨some 8, some (7, false), .fad (.r 1) 1⟩,
    ⟨some 9, some (7, false), .ld (.r 8) 1 1 25 1 false⟩,
    ⟨some 10, some (7, false), .call false false 50 [(.r 9)]⟩,
    ⟨some 11, some (7, false), .un .not (.r 10)⟩,
    ⟨some 12, none, .pick (.r 7) (.b true) (.r 11)⟩,
    ⟨some 13, none, .mov (.r 12)⟩,
    ⟨some 14, some (13, false), .fad (.r 1) 2⟩,
    ⟨some 15, some (13, false), .ld (.r 14) 1 2 26 1 false⟩,
    ⟨some 16, some (13, false), .len false (.r 15)⟩,
    ⟨some 17, some (13, false), .fad (.r 1) 0⟩,
    ⟨some 18, some (13, false), .ld (.r 17) 1 0 24 1 false⟩,
    ⟨some 19, some (13, false), .fad (.r 1) 1⟩,
    ⟨some 20, some (13, false), .ld (.r 19) 1 1 25 1 false⟩,
    ⟨some 21, some (13, false), .bin false .mul (.r 18) (.r 20)⟩,
    ⟨some 22, some (13, false), .bin false .neq (.r 16) (.r 21)⟩,
    ⟨some 23, none, .pick (.r 13) (.b true) (.r 22)⟩]) 
  (.cond (.r 23)
  (.seq (.reg [⟨some 2, none, .mov (.i .i64 11)⟩]) 
   (.ret))
  (.skip))) 
  (.seq (.reg [⟨some 2, none, .mov (.i .i64 0)⟩]) 
  (.ret))),
  [.tmp 2]⟩
theorem chk25 : chkF Tryz.prog 25 ir25 = true := by kernel_rfl
/-- vernier/tri.counts -/
def ir30 : FnIr := ⟨⟨14, 14, 14, []⟩,
  .seq (.reg [⟨some 6, none, .mov (.b false)⟩]) 
  (.seq (.seq (.reg [⟨some 7, none, .mov (.r 2)⟩]) 
  (.cond (.r 7)
  (.seq (.reg [⟨some 8, none, .mov (.r 0)⟩,
     ⟨some 9, none, .mov (.r 1)⟩,
     ⟨some 10, none, .bin false .leq (.r 8) (.r 9)⟩,
     ⟨some 6, none, .mov (.r 10)⟩]) 
   (.ret))
  (.skip))) 
  (.seq (.reg [⟨some 11, none, .mov (.r 0)⟩,
    ⟨some 12, none, .mov (.r 1)⟩,
    ⟨some 13, none, .bin false .geq (.r 11) (.r 12)⟩,
    ⟨some 6, none, .mov (.r 13)⟩]) 
  (.ret))),
  [.tmp 6]⟩
theorem chk30 : chkF Tryz.prog 30 ir30 = true := by kernel_rfl
/-- vernier/resid.finite -/
def ir31 : FnIr := ⟨⟨18, 21, 21, [(4, 18, 3)]⟩,
  .seq (.reg [⟨some 2, none, .mov (.i .i64 0)⟩]) 
  (.seq (.seq (.reg [⟨some 6, none, .mov (.r 0)⟩,
    ⟨some 7, none, .len false (.r 6)⟩,
    ⟨some 8, none, .mov (.i .i64 0)⟩]) 
  (.block 0 (.kil ⟨[4, 5, 9, 10, 11, 12, 13, 14, 15, 16, 17, 18, 19, 20], [4], [], []⟩ (.loop ⟨[4, 5, 9, 10, 11, 12, 13, 14, 15, 16, 17, 18, 19, 20], [4], [], []⟩ (.seq (.reg [⟨some 9, none, .bin false .lss (.r 8) (.r 7)⟩]) 
    (.seq (.cond (.r 9)
    (.skip)
    (.exit 0)) 
    (.seq (.block 1 (.seq (.reg [⟨some 10, none, .eat false (.r 6) (.r 8) 3⟩,
       ⟨some 11, none, .lde false (.r 10) 3 true⟩,
       ⟨some 4, none, .mk 18 [.int .i64 0, .int .i64 0, .nil0]⟩,
       ⟨none, none, .st (.r 4) 4 0 18 3 (.r 11)⟩]) 
     (.seq (.reg [⟨some 12, none, .ld (.r 4) 4 0 18 3 true⟩,
       ⟨some 13, none, .call false false 9 [(.r 12)]⟩,
       ⟨some 5, none, .mov (.r 13)⟩]) 
     (.seq (.reg [⟨some 14, none, .mov (.r 5)⟩,
       ⟨some 15, none, .bin false .neq (.r 14) (.i .i64 0)⟩]) 
     (.cond (.r 15)
     (.seq (.reg [⟨some 16, none, .mov (.r 5)⟩,
        ⟨some 2, none, .mov (.r 16)⟩]) 
      (.ret))
     (.skip)))))) 
    (.reg [⟨some 17, none, .bin false .add (.r 8) (.i .i64 1)⟩,
      ⟨some 8, none, .mov (.r 17)⟩])))))))) 
  (.seq (.reg [⟨some 2, none, .mov (.i .i64 0)⟩]) 
  (.ret))),
  [.tmp 2]⟩
theorem chk31 : chkF Tryz.prog 31 ir31 = true := by kernel_rfl
/-- vernier/resid.of -/
def ir32 : FnIr := ⟨⟨33, 45, 46, [(1, 33, 3), (2, 36, 3), (3, 39, 3), (6, 42, 3)]⟩,
  .seq (.reg [⟨some 1, none, .box 33 3 (.r 0)⟩,
    ⟨some 2, none, .mk 36 [.int .i64 0, .int .i64 0, .nil0]⟩]) 
  (.seq (.reg [⟨some 8, none, .fad (.r 1) 0⟩,
    ⟨some 9, none, .ld (.r 8) 1 0 33 1 false⟩,
    ⟨some 10, none, .fad (.r 1) 1⟩,
    ⟨some 11, none, .ld (.r 10) 1 1 34 1 false⟩,
    ⟨some 12, none, .bld [(0, 1, (.r 9)), (1, 1, (.r 11))] [.int .i64 0, .int .i64 0, .nil0]⟩,
    ⟨some 3, none, .mk 39 [.int .i64 0, .int .i64 0, .nil0]⟩,
    ⟨none, none, .st (.r 3) 3 0 39 3 (.r 12)⟩]) 
  (.seq (.seq (.reg [⟨some 13, none, .fad (.r 1) 2⟩,
    ⟨some 14, none, .ld (.r 13) 1 2 35 1 false⟩,
    ⟨some 15, none, .len false (.r 14)⟩,
    ⟨some 16, none, .mov (.i .i64 0)⟩]) 
  (.block 0 (.kil ⟨[5, 6, 7, 17, 18, 19, 20, 21, 22, 23, 24, 25, 26, 27, 28, 29, 30, 31, 42, 43, 44], [6], [], []⟩ (.loop ⟨[5, 6, 7, 17, 18, 19, 20, 21, 22, 23, 24, 25, 26, 27, 28, 29, 30, 31, 42, 43, 44], [6], [], []⟩ (.seq (.reg [⟨some 17, none, .bin false .lss (.r 16) (.r 15)⟩]) 
    (.seq (.cond (.r 17)
    (.skip)
    (.exit 0)) 
    (.seq (.block 1 (.seq (.reg [⟨some 18, none, .eat false (.r 14) (.r 16) 1⟩,
       ⟨some 19, none, .lde false (.r 18) 1 false⟩,
       ⟨some 5, none, .mov (.r 19)⟩]) 
     (.seq (.reg [⟨some 21, none, .mov (.r 5)⟩,
       ⟨some 22, none, .call false false 52 [(.r 21)]⟩,
       ⟨some 20, none, .mov (.r 22)⟩,
       ⟨some 23, none, .ext (.r 20) 0⟩,
       ⟨some 24, none, .ext (.r 20) 1⟩,
       ⟨some 6, none, .mk 42 [.bool false, .nil0, .int .i64 0]⟩,
       ⟨none, none, .st (.r 6) 6 0 42 3 (.r 23)⟩,
       ⟨some 7, none, .mov (.r 24)⟩]) 
     (.reg [⟨some 25, none, .fad (.r 3) 2⟩,
       ⟨some 26, none, .ld (.r 25) 3 2 41 1 false⟩,
       ⟨some 27, none, .ld (.r 6) 6 0 42 3 true⟩,
       ⟨some 28, none, .bsl 1 3 true [(0, 3, (.r 27))] [.bool false, .nil0, .int .i64 0]⟩,
       ⟨some 29, none, .app (.r 26) (.r 28) 0 3 40 27⟩,
       ⟨some 30, none, .fad (.r 3) 2⟩,
       ⟨none, none, .st (.r 30) 3 2 41 1 (.r 29)⟩])))) 
    (.reg [⟨some 31, none, .bin false .add (.r 16) (.i .i64 1)⟩,
      ⟨some 16, none, .mov (.r 31)⟩])))))))) 
  (.seq (.reg [⟨some 32, none, .ld (.r 3) 3 0 39 3 true⟩,
    ⟨none, none, .st (.r 2) 2 0 36 3 (.r 32)⟩]) 
  (.ret)))),
  [.cell 2 2 36 3]⟩
theorem chk32 : chkF Tryz.prog 32 ir32 = true := by kernel_rfl
/-- (vernier/resid.grid).less -/
def ir33 : FnIr := ⟨⟨35, 50, 51, [(2, 35, 3), (3, 38, 3), (4, 41, 3), (5, 44, 3), (7, 47, 3)]⟩,
  .seq (.reg [⟨some 2, none, .box 35 3 (.r 0)⟩,
    ⟨some 3, none, .box 38 3 (.r 1)⟩,
    ⟨some 4, none, .mk 41 [.int .i64 0, .int .i64 0, .nil0]⟩]) 
  (.seq (.reg [⟨some 8, none, .fad (.r 2) 0⟩,
    ⟨some 9, none, .ld (.r 8) 2 0 35 1 false⟩,
    ⟨some 10, none, .fad (.r 2) 1⟩,
    ⟨some 11, none, .ld (.r 10) 2 1 36 1 false⟩,
    ⟨some 12, none, .bld [(0, 1, (.r 9)), (1, 1, (.r 11))] [.int .i64 0, .int .i64 0, .nil0]⟩,
    ⟨some 5, none, .mk 44 [.int .i64 0, .int .i64 0, .nil0]⟩,
    ⟨none, none, .st (.r 5) 5 0 44 3 (.r 12)⟩]) 
  (.seq (.seq (.reg [⟨some 13, none, .fad (.r 2) 2⟩,
    ⟨some 14, none, .ld (.r 13) 2 2 37 1 false⟩,
    ⟨some 15, none, .len false (.r 14)⟩,
    ⟨some 16, none, .mov (.i .i64 0)⟩]) 
  (.block 0 (.kil ⟨[6, 7, 17, 18, 19, 20, 21, 22, 23, 24, 25, 26, 27, 28, 29, 30, 31, 32, 33, 47, 48, 49], [7], [], []⟩ (.loop ⟨[6, 7, 17, 18, 19, 20, 21, 22, 23, 24, 25, 26, 27, 28, 29, 30, 31, 32, 33, 47, 48, 49], [7], [], []⟩ (.seq (.reg [⟨some 17, none, .bin false .lss (.r 16) (.r 15)⟩]) 
    (.seq (.cond (.r 17)
    (.skip)
    (.exit 0)) 
    (.seq (.block 1 (.seq (.reg [⟨some 18, none, .mov (.r 16)⟩,
       ⟨some 19, none, .eat false (.r 14) (.r 16) 3⟩,
       ⟨some 20, none, .lde false (.r 19) 3 true⟩,
       ⟨some 7, none, .mk 47 [.bool false, .nil0, .int .i64 0]⟩,
       ⟨some 6, none, .mov (.r 18)⟩,
       ⟨none, none, .st (.r 7) 7 0 47 3 (.r 20)⟩]) 
     (.reg [⟨some 21, none, .fad (.r 5) 2⟩,
       ⟨some 22, none, .ld (.r 21) 5 2 46 1 false⟩,
       ⟨some 23, none, .ld (.r 7) 7 0 47 3 true⟩,
       ⟨some 24, none, .fad (.r 3) 2⟩,
       ⟨some 25, none, .ld (.r 24) 3 2 40 1 false⟩,
       ⟨some 26, none, .mov (.r 6)⟩,
       ⟨some 27, none, .eat false (.r 25) (.r 26) 3⟩,
       ⟨some 28, none, .lde false (.r 27) 3 true⟩,
       ⟨some 29, none, .call false false 53 [(.r 23), (.r 28)]⟩,
       ⟨some 30, none, .bsl 1 3 true [(0, 3, (.r 29))] [.bool false, .nil0, .int .i64 0]⟩,
       ⟨some 31, none, .app (.r 22) (.r 30) 0 3 40 27⟩,
       ⟨some 32, none, .fad (.r 5) 2⟩,
       ⟨none, none, .st (.r 32) 5 2 46 1 (.r 31)⟩]))) 
    (.reg [⟨some 33, none, .bin false .add (.r 16) (.i .i64 1)⟩,
      ⟨some 16, none, .mov (.r 33)⟩])))))))) 
  (.seq (.reg [⟨some 34, none, .ld (.r 5) 5 0 44 3 true⟩,
    ⟨none, none, .st (.r 4) 4 0 41 3 (.r 34)⟩]) 
  (.ret)))),
  [.cell 4 4 41 3]⟩
theorem chk33 : chkF Tryz.prog 33 ir33 = true := by kernel_rfl
/-- (vernier/resid.grid).times -/
def ir34 : FnIr := ⟨⟨52, 67, 68, [(2, 52, 3), (3, 55, 3), (4, 58, 3), (5, 61, 3), (8, 64, 3)]⟩,
  .seq (.reg [⟨some 2, none, .box 52 3 (.r 0)⟩,
    ⟨some 3, none, .box 55 3 (.r 1)⟩,
    ⟨some 4, none, .mk 58 [.int .i64 0, .int .i64 0, .nil0]⟩]) 
  (.seq (.reg [⟨some 10, none, .fad (.r 2) 0⟩,
    ⟨some 11, none, .ld (.r 10) 2 0 52 1 false⟩,
    ⟨some 12, none, .fad (.r 3) 1⟩,
    ⟨some 13, none, .ld (.r 12) 3 1 56 1 false⟩,
    ⟨some 14, none, .bld [(0, 1, (.r 11)), (1, 1, (.r 13))] [.int .i64 0, .int .i64 0, .nil0]⟩,
    ⟨some 5, none, .mk 61 [.int .i64 0, .int .i64 0, .nil0]⟩,
    ⟨none, none, .st (.r 5) 5 0 61 3 (.r 14)⟩]) 
  (.seq (.seq (.reg [⟨some 15, none, .fad (.r 2) 0⟩,
    ⟨some 16, none, .ld (.r 15) 2 0 52 1 false⟩,
    ⟨some 17, none, .mov (.i .i64 0)⟩]) 
  (.block 0 (.kil ⟨[6, 7, 8, 9, 18, 19, 20, 21, 22, 23, 24, 25, 26, 27, 28, 29, 30, 31, 32, 33, 34, 35, 36, 37, 38, 39, 40, 41, 42, 43, 44, 45, 46, 47, 48, 49, 50, 64, 65, 66], [8], [], []⟩ (.loop ⟨[6, 7, 8, 9, 18, 19, 20, 21, 22, 23, 24, 25, 26, 27, 28, 29, 30, 31, 32, 33, 34, 35, 36, 37, 38, 39, 40, 41, 42, 43, 44, 45, 46, 47, 48, 49, 50, 64, 65, 66], [8], [], []⟩ (.seq (.reg [⟨some 18, none, .bin false .lss (.r 17) (.r 16)⟩]) 
    (.seq (.cond (.r 18)
    (.skip)
    (.exit 0)) 
    (.seq (.block 1 (.seq (.reg [⟨some 19, none, .mov (.r 17)⟩,
       ⟨some 6, none, .mov (.r 19)⟩]) 
     (.seq (.reg [⟨some 20, none, .fad (.r 3) 1⟩,
       ⟨some 21, none, .ld (.r 20) 3 1 56 1 false⟩,
       ⟨some 22, none, .mov (.i .i64 0)⟩]) 
     (.block 2 (.kil ⟨[7, 8, 9, 23, 24, 25, 26, 27, 28, 29, 30, 31, 32, 33, 34, 35, 36, 37, 38, 39, 40, 41, 42, 43, 44, 45, 46, 47, 48, 49, 64, 65, 66], [8], [], []⟩ (.loop ⟨[7, 8, 9, 23, 24, 25, 26, 27, 28, 29, 30, 31, 32, 33, 34, 35, 36, 37, 38, 39, 40, 41, 42, 43, 44, 45, 46, 47, 48, 49, 64, 65, 66], [8], [], []⟩ (.seq (.reg [⟨some 23, none, .bin false .lss (.r 22) (.r 21)⟩]) 
       (.seq (.cond (.r 23)
       (.skip)
       (.exit 2)) 
       (.seq (.block 3 (.seq (.reg [⟨some 24, none, .mov (.r 22)⟩,
          ⟨some 7, none, .mov (.r 24)⟩]) 
        (.seq (.reg [⟨some 25, none, .bld [] [.bool false, .nil0, .int .i64 0]⟩,
          ⟨some 8, none, .mk 64 [.bool false, .nil0, .int .i64 0]⟩,
          ⟨none, none, .st (.r 8) 8 0 64 3 (.r 25)⟩]) 
        (.seq (.seq (.reg [⟨some 26, none, .fad (.r 2) 1⟩,
          ⟨some 27, none, .ld (.r 26) 2 1 53 1 false⟩,
          ⟨some 28, none, .mov (.i .i64 0)⟩]) 
        (.block 4 (.kil ⟨[9, 29, 30, 31, 32, 33, 34, 35, 36, 37, 38, 39, 40, 41, 42], [], [], []⟩ (.loop ⟨[9, 29, 30, 31, 32, 33, 34, 35, 36, 37, 38, 39, 40, 41, 42], [], [], []⟩ (.seq (.reg [⟨some 29, none, .bin false .lss (.r 28) (.r 27)⟩]) 
          (.seq (.cond (.r 29)
          (.skip)
          (.exit 4)) 
          (.seq (.block 5 (.seq (.reg [⟨some 30, none, .mov (.r 28)⟩,
             ⟨some 9, none, .mov (.r 30)⟩]) 
           (.reg [⟨some 31, none, .ld (.r 8) 8 0 64 3 true⟩,
             ⟨some 32, none, .ld (.r 2) 2 0 52 3 true⟩,
             ⟨some 33, none, .mov (.r 6)⟩,
             ⟨some 34, none, .mov (.r 9)⟩,
             ⟨some 35, none, .call false false 56 [(.r 32), (.r 33), (.r 34)]⟩,
             ⟨some 36, none, .ld (.r 3) 3 0 55 3 true⟩,
             ⟨some 37, none, .mov (.r 9)⟩,
             ⟨some 38, none, .mov (.r 7)⟩,
             ⟨some 39, none, .call false false 56 [(.r 36), (.r 37), (.r 38)]⟩,
             ⟨some 40, none, .call false false 55 [(.r 35), (.r 39)]⟩,
             ⟨some 41, none, .call false false 54 [(.r 31), (.r 40)]⟩,
             ⟨none, none, .st (.r 8) 8 0 64 3 (.r 41)⟩]))) 
          (.reg [⟨some 42, none, .bin false .add (.r 28) (.i .i64 1)⟩,
            ⟨some 28, none, .mov (.r 42)⟩])))))))) 
        (.reg [⟨some 43, none, .fad (.r 5) 2⟩,
          ⟨some 44, none, .ld (.r 43) 5 2 63 1 false⟩,
          ⟨some 45, none, .ld (.r 8) 8 0 64 3 true⟩,
          ⟨some 46, none, .bsl 1 3 true [(0, 3, (.r 45))] [.bool false, .nil0, .int .i64 0]⟩,
          ⟨some 47, none, .app (.r 44) (.r 46) 0 3 40 27⟩,
          ⟨some 48, none, .fad (.r 5) 2⟩,
          ⟨none, none, .st (.r 48) 5 2 63 1 (.r 47)⟩]))))) 
       (.reg [⟨some 49, none, .bin false .add (.r 22) (.i .i64 1)⟩,
         ⟨some 22, none, .mov (.r 49)⟩])))))))))) 
    (.reg [⟨some 50, none, .bin false .add (.r 17) (.i .i64 1)⟩,
      ⟨some 17, none, .mov (.r 50)⟩])))))))) 
  (.seq (.reg [⟨some 51, none, .ld (.r 5) 5 0 61 3 true⟩,
    ⟨none, none, .st (.r 4) 4 0 58 3 (.r 51)⟩]) 
  (.ret)))),
  [.cell 4 4 58 3]⟩
theorem chk34 : chkF Tryz.prog 34 ir34 = true := by kernel_rfl
/-- (vernier/resid.grid).most -/
def ir35 : FnIr := ⟨⟨32, 44, 44, [(1, 32, 3), (2, 35, 3), (3, 38, 3), (5, 41, 3)]⟩,
  .seq (.reg [⟨some 1, none, .box 32 3 (.r 0)⟩,
    ⟨some 2, none, .mk 35 [.bool false, .nil0, .int .i64 0]⟩]) 
  (.seq (.reg [⟨some 8, none, .bld [] [.bool false, .nil0, .int .i64 0]⟩,
    ⟨some 3, none, .mk 38 [.bool false, .nil0, .int .i64 0]⟩,
    ⟨none, none, .st (.r 3) 3 0 38 3 (.r 8)⟩]) 
  (.seq (.seq (.reg [⟨some 9, none, .fad (.r 1) 2⟩,
    ⟨some 10, none, .ld (.r 9) 1 2 34 1 false⟩,
    ⟨some 11, none, .len false (.r 10)⟩,
    ⟨some 12, none, .mov (.i .i64 0)⟩]) 
  (.block 0 (.kil ⟨[5, 6, 7, 13, 14, 15, 16, 17, 18, 19, 20, 21, 22, 23, 24, 25, 26, 27, 28, 29, 30, 41, 42, 43], [5], [], []⟩ (.loop ⟨[5, 6, 7, 13, 14, 15, 16, 17, 18, 19, 20, 21, 22, 23, 24, 25, 26, 27, 28, 29, 30, 41, 42, 43], [5], [], []⟩ (.seq (.reg [⟨some 13, none, .bin false .lss (.r 12) (.r 11)⟩]) 
    (.seq (.cond (.r 13)
    (.skip)
    (.exit 0)) 
    (.seq (.block 1 (.seq (.reg [⟨some 14, none, .eat false (.r 10) (.r 12) 3⟩,
       ⟨some 15, none, .lde false (.r 14) 3 true⟩,
       ⟨some 5, none, .mk 41 [.bool false, .nil0, .int .i64 0]⟩,
       ⟨none, none, .st (.r 5) 5 0 41 3 (.r 15)⟩]) 
     (.seq (.reg [⟨some 17, none, .ld (.r 5) 5 0 41 3 true⟩,
       ⟨some 18, none, .call false false 57 [(.r 17)]⟩,
       ⟨some 16, none, .mov (.r 18)⟩,
       ⟨some 19, none, .ext (.r 16) 0⟩,
       ⟨some 20, none, .ext (.r 16) 1⟩,
       ⟨none, none, .st (.r 5) 5 0 41 3 (.r 19)⟩]) 
     (.seq (.reg [⟨some 22, none, .ld (.r 5) 5 0 41 3 true⟩,
       ⟨some 23, none, .ld (.r 3) 3 0 38 3 true⟩,
       ⟨some 24, none, .call false false 41 [(.r 22), (.r 23)]⟩,
       ⟨some 21, none, .mov (.r 24)⟩,
       ⟨some 25, none, .ext (.r 21) 0⟩,
       ⟨some 26, none, .ext (.r 21) 1⟩,
       ⟨some 6, none, .mov (.r 25)⟩,
       ⟨some 7, none, .mov (.r 26)⟩]) 
     (.seq (.reg [⟨some 27, none, .mov (.r 6)⟩,
       ⟨some 28, none, .bin false .gtr (.r 27) (.i .i64 0)⟩]) 
     (.cond (.r 28)
     (.reg [⟨some 29, none, .ld (.r 5) 5 0 41 3 true⟩,
        ⟨none, none, .st (.r 3) 3 0 38 3 (.r 29)⟩])
     (.skip))))))) 
    (.reg [⟨some 30, none, .bin false .add (.r 12) (.i .i64 1)⟩,
      ⟨some 12, none, .mov (.r 30)⟩])))))))) 
  (.seq (.reg [⟨some 31, none, .ld (.r 3) 3 0 38 3 true⟩,
    ⟨none, none, .st (.r 2) 2 0 35 3 (.r 31)⟩]) 
  (.ret)))),
  [.cell 2 2 35 3]⟩
theorem chk35 : chkF Tryz.prog 35 ir35 = true := by kernel_rfl
/-- vernier/bound.odd -/
def ir36 : FnIr := ⟨⟨22, 22, 22, []⟩,
  .seq (.reg [⟨some 4, none, .mov (.b false)⟩]) 
  (.seq (.seq (.reg [⟨some 7, none, .mov (.r 1)⟩,
    ⟨some 8, none, .len false (.r 7)⟩,
    ⟨some 9, none, .mov (.i .i64 0)⟩]) 
  (.block 0 (.kil ⟨[6, 10, 11, 12, 13, 14, 15, 16, 17, 18, 19], [], [], []⟩ (.loop ⟨[6, 10, 11, 12, 13, 14, 15, 16, 17, 18, 19], [], [], []⟩ (.seq (.reg [⟨some 10, none, .bin false .lss (.r 9) (.r 8)⟩]) 
    (.seq (.cond (.r 10)
    (.skip)
    (.exit 0)) 
    (.seq (.block 1 (.seq (.reg [⟨some 11, none, .eat false (.r 7) (.r 9) 1⟩,
       ⟨some 12, none, .lde false (.r 11) 1 false⟩,
       ⟨some 6, none, .mov (.r 12)⟩]) 
     (.seq (.reg [⟨some 13, none, .mov (.r 6)⟩,
       ⟨some 14, none, .bin false .lss (.r 13) (.i .i64 1)⟩,
       ⟨some 15, none, .mov (.r 14)⟩,
       ⟨some 16, some (15, false), .mov (.r 6)⟩,
       ⟨some 17, some (15, false), .bin false .gtr (.r 16) (.i .i64 64)⟩,
       ⟨some 18, none, .pick (.r 15) (.b true) (.r 17)⟩]) 
     (.cond (.r 18)
     (.seq (.reg [⟨some 4, none, .mov (.b true)⟩]) 
      (.ret))
     (.skip))))) 
    (.reg [⟨some 19, none, .bin false .add (.r 9) (.i .i64 1)⟩,
      ⟨some 9, none, .mov (.r 19)⟩])))))))) 
  (.seq (.reg [⟨some 20, none, .mov (.r 0)⟩,
    ⟨some 21, none, .bin false .lss (.r 20) (.i .i64 1)⟩,
    ⟨some 4, none, .mov (.r 21)⟩]) 
  (.ret))),
  [.tmp 4]⟩
theorem chk36 : chkF Tryz.prog 36 ir36 = true := by kernel_rfl
/-- vernier/bound.tri -/
def ir37 : FnIr := ⟨⟨55, 73, 73, [(10, 55, 6), (13, 61, 6), (14, 67, 6)]⟩,
  .seq (.reg [⟨some 10, none, .mk 55 [.bool false, .nil0, .int .i64 0, .bool false, .nil0, .int .i64 0]⟩]) 
  (.seq (.seq (.reg [⟨some 15, none, .mov (.r 0)⟩,
    ⟨some 16, none, .bin false .eql (.r 15) (.i .i64 1)⟩]) 
  (.cond (.r 16)
  (.seq (.seq (.reg [⟨some 17, none, .mov (.r 3)⟩]) 
   (.cond (.r 17)
   (.seq (.reg [⟨some 18, none, .call false false 58 [(.i .i64 0), (.i .i64 0)]⟩,
      ⟨some 19, none, .call false false 58 [(.i .i64 0), (.i .i64 0)]⟩,
      ⟨some 20, none, .bld [(0, 3, (.r 18)), (3, 3, (.r 19))] [.bool false, .nil0, .int .i64 0, .bool false, .nil0, .int .i64 0]⟩,
      ⟨none, none, .st (.r 10) 10 0 55 6 (.r 20)⟩]) 
    (.ret))
   (.skip))) 
   (.seq (.reg [⟨some 21, none, .call false false 59 []⟩,
     ⟨none, none, .st (.r 10) 10 0 55 6 (.r 21)⟩]) 
   (.ret)))
  (.skip))) 
  (.seq (.reg [⟨some 22, none, .mov (.r 0)⟩,
    ⟨some 23, none, .bin false .quo (.r 22) (.i .i64 2)⟩,
    ⟨some 24, none, .mov (.r 0)⟩,
    ⟨some 25, none, .mov (.r 0)⟩,
    ⟨some 26, none, .bin false .quo (.r 25) (.i .i64 2)⟩,
    ⟨some 27, none, .bin false .sub (.r 24) (.r 26)⟩,
    ⟨some 11, none, .mov (.r 23)⟩,
    ⟨some 12, none, .mov (.r 27)⟩]) 
  (.seq (.seq (.reg [⟨some 28, none, .mov (.r 2)⟩]) 
  (.cond (.r 28)
  (.reg [⟨some 29, none, .mov (.r 12)⟩,
     ⟨some 30, none, .mov (.r 11)⟩,
     ⟨some 11, none, .mov (.r 29)⟩,
     ⟨some 12, none, .mov (.r 30)⟩])
  (.skip))) 
  (.seq (.reg [⟨some 31, none, .mov (.r 11)⟩,
    ⟨some 32, none, .mov (.r 1)⟩,
    ⟨some 33, none, .mov (.r 2)⟩,
    ⟨some 34, none, .mov (.r 3)⟩,
    ⟨some 35, none, .mov (.r 4)⟩,
    ⟨some 36, none, .call false false 37 [(.r 31), (.r 32), (.r 33), (.r 34), (.r 35)]⟩,
    ⟨some 37, none, .mov (.r 12)⟩,
    ⟨some 38, none, .mov (.r 1)⟩,
    ⟨some 39, none, .mov (.r 2)⟩,
    ⟨some 40, none, .mov (.r 3)⟩,
    ⟨some 41, none, .mov (.r 4)⟩,
    ⟨some 42, none, .call false false 37 [(.r 37), (.r 38), (.r 39), (.r 40), (.r 41)]⟩,
    ⟨some 13, none, .mk 61 [.bool false, .nil0, .int .i64 0, .bool false, .nil0, .int .i64 0]⟩,
    ⟨some 14, none, .mk 67 [.bool false, .nil0, .int .i64 0, .bool false, .nil0, .int .i64 0]⟩,
    ⟨none, none, .st (.r 13) 13 0 61 6 (.r 36)⟩,
    ⟨none, none, .st (.r 14) 14 0 67 6 (.r 42)⟩]) 
  (.seq (.reg [⟨some 43, none, .ld (.r 13) 13 0 61 6 true⟩,
    ⟨some 44, none, .mov (.r 12)⟩,
    ⟨some 45, none, .mov (.r 11)⟩,
    ⟨some 46, none, .mov (.r 1)⟩,
    ⟨some 47, none, .mov (.r 4)⟩,
    ⟨some 48, none, .call false false 44 [(.r 44), (.r 45), (.r 46), (.r 47)]⟩,
    ⟨some 49, none, .ld (.r 14) 14 0 67 6 true⟩,
    ⟨some 50, none, .mov (.r 12)⟩,
    ⟨some 51, none, .call false false 61 [(.r 48), (.r 49), (.r 50)]⟩,
    ⟨some 52, none, .bsl 1 6 true [(0, 6, (.r 51))] [.bool false, .nil0, .int .i64 0, .bool false, .nil0, .int .i64 0]⟩,
    ⟨some 53, none, .call false false 60 [(.r 43), (.r 52)]⟩,
    ⟨some 54, none, .call false false 62 [(.r 53)]⟩,
    ⟨none, none, .st (.r 10) 10 0 55 6 (.r 54)⟩]) 
  (.ret)))))),
  [.cell 10 10 55 6]⟩
theorem chk37 : chkF Tryz.prog 37 ir37 = true := by kernel_rfl
/-- (vernier/bound.pair).told -/
def ir38 : FnIr := ⟨⟨11, 23, 23, [(1, 11, 6), (2, 17, 6)]⟩,
  .seq (.reg [⟨some 1, none, .box 11 6 (.r 0)⟩,
    ⟨some 2, none, .mk 17 [.bool false, .nil0, .int .i64 0, .bool false, .nil0, .int .i64 0]⟩,
    ⟨some 3, none, .mov (.i .i64 0)⟩]) 
  (.seq (.reg [⟨some 4, none, .fad (.r 1) 0⟩,
    ⟨some 5, none, .fad (.r 4) 0⟩,
    ⟨some 6, none, .ld (.r 5) 1 0 11 3 true⟩,
    ⟨some 7, none, .fad (.r 1) 3⟩,
    ⟨some 8, none, .fad (.r 7) 0⟩,
    ⟨some 9, none, .ld (.r 8) 1 3 14 3 true⟩,
    ⟨some 10, none, .bld [(0, 3, (.r 6)), (3, 3, (.r 9))] [.bool false, .nil0, .int .i64 0, .bool false, .nil0, .int .i64 0]⟩,
    ⟨none, none, .st (.r 2) 2 0 17 6 (.r 10)⟩,
    ⟨some 3, none, .mov (.i .i64 0)⟩]) 
  (.ret)),
  [.cell 2 2 17 6, .tmp 3]⟩
theorem chk38 : chkF Tryz.prog 38 ir38 = true := by kernel_rfl
/-- vernier/resid.Max -/
def ir39 : FnIr := ⟨⟨15, 21, 21, [(1, 15, 3), (2, 18, 3)]⟩,
  .seq (.reg [⟨some 1, none, .box 15 3 (.r 0)⟩,
    ⟨some 2, none, .mk 18 [.bool false, .nil0, .int .i64 0]⟩,
    ⟨some 3, none, .mov (.i .i64 0)⟩]) 
  (.seq (.seq (.reg [⟨some 5, none, .ld (.r 1) 1 0 15 3 true⟩,
    ⟨some 6, none, .bsl 1 3 true [(0, 3, (.r 5))] [.int .i64 0, .int .i64 0, .nil0]⟩,
    ⟨some 7, none, .call false false 31 [(.r 6)]⟩,
    ⟨some 4, none, .mov (.r 7)⟩]) 
  (.seq (.reg [⟨some 8, none, .mov (.r 4)⟩,
    ⟨some 9, none, .bin false .neq (.r 8) (.i .i64 0)⟩]) 
  (.cond (.r 9)
  (.seq (.reg [⟨some 10, none, .bld [] [.bool false, .nil0, .int .i64 0]⟩,
     ⟨some 11, none, .mov (.r 4)⟩,
     ⟨none, none, .st (.r 2) 2 0 18 3 (.r 10)⟩,
     ⟨some 3, none, .mov (.r 11)⟩]) 
   (.ret))
  (.skip)))) 
  (.seq (.reg [⟨some 12, none, .ld (.r 1) 1 0 15 3 true⟩,
    ⟨some 13, none, .call false false 32 [(.r 12)]⟩,
    ⟨some 14, none, .call false false 35 [(.r 13)]⟩,
    ⟨none, none, .st (.r 2) 2 0 18 3 (.r 14)⟩,
    ⟨some 3, none, .mov (.i .i64 0)⟩]) 
  (.ret))),
  [.cell 2 2 18 3, .tmp 3]⟩
theorem chk39 : chkF Tryz.prog 39 ir39 = true := by kernel_rfl
/-- vernier/bound.Value -/
def ir40 : FnIr := ⟨⟨64, 92, 92, [(4, 64, 6), (5, 70, 3), (6, 73, 3), (8, 76, 3), (9, 79, 1), (11, 80, 3), (12, 83, 3), (13, 86, 3), (14, 89, 3)]⟩,
  .seq (.reg [⟨some 4, none, .box 64 6 (.r 0)⟩,
    ⟨some 5, none, .box 70 3 (.r 1)⟩,
    ⟨some 6, none, .box 73 3 (.r 2)⟩,
    ⟨some 8, none, .mk 76 [.bool false, .nil0, .int .i64 0]⟩,
    ⟨some 9, none, .mk 79 [.int .i64 0]⟩]) 
  (.seq (.seq (.reg [⟨some 15, none, .fad (.r 4) 0⟩,
    ⟨some 16, none, .ld (.r 15) 4 0 64 3 true⟩,
    ⟨some 17, none, .fad (.r 4) 3⟩,
    ⟨some 18, none, .ld (.r 17) 4 3 67 3 true⟩,
    ⟨some 19, none, .ld (.r 5) 5 0 70 3 true⟩,
    ⟨some 20, none, .ld (.r 6) 6 0 73 3 true⟩,
    ⟨some 21, none, .bsl 4 3 true [(0, 3, (.r 16)), (3, 3, (.r 18)), (6, 3, (.r 19)), (9, 3, (.r 20))] [.bool false, .nil0, .int .i64 0]⟩,
    ⟨some 22, none, .call false false 63 [(.r 21)]⟩,
    ⟨some 10, none, .mov (.r 22)⟩]) 
  (.seq (.reg [⟨some 23, none, .mov (.r 10)⟩,
    ⟨some 24, none, .bin false .neq (.r 23) (.i .i64 0)⟩]) 
  (.cond (.r 24)
  (.seq (.reg [⟨some 25, none, .bld [] [.bool false, .nil0, .int .i64 0]⟩,
     ⟨some 26, none, .mov (.r 10)⟩,
     ⟨none, none, .st (.r 8) 8 0 76 3 (.r 25)⟩,
     ⟨none, none, .st (.r 9) 9 0 79 1 (.r 26)⟩]) 
   (.ret))
  (.skip)))) 
  (.seq (.dfr 27) 
  (.seq (.reg [⟨some 28, none, .ld (.r 5) 5 0 70 3 true⟩,
    ⟨some 29, none, .bld [(0, 3, (.r 28))] [.bool false, .nil0, .int .i64 0]⟩,
    ⟨some 30, none, .ld (.r 6) 6 0 73 3 true⟩,
    ⟨some 31, none, .bld [(0, 3, (.r 30))] [.bool false, .nil0, .int .i64 0]⟩,
    ⟨some 32, none, .fad (.r 4) 3⟩,
    ⟨some 33, none, .ld (.r 32) 4 3 67 3 true⟩,
    ⟨some 34, none, .bld [(0, 3, (.r 33))] [.bool false, .nil0, .int .i64 0]⟩,
    ⟨some 11, none, .mk 80 [.bool false, .nil0, .int .i64 0]⟩,
    ⟨some 12, none, .mk 83 [.bool false, .nil0, .int .i64 0]⟩,
    ⟨some 13, none, .mk 86 [.bool false, .nil0, .int .i64 0]⟩,
    ⟨none, none, .st (.r 11) 11 0 80 3 (.r 29)⟩,
    ⟨none, none, .st (.r 12) 12 0 83 3 (.r 31)⟩,
    ⟨none, none, .st (.r 13) 13 0 86 3 (.r 34)⟩]) 
  (.seq (.seq (.reg [⟨some 35, none, .mov (.r 3)⟩]) 
  (.cond (.r 35)
  (.reg [⟨some 36, none, .ld (.r 13) 13 0 86 3 true⟩,
     ⟨some 37, none, .call false false 58 [(.i .i64 1), (.i .i64 0)]⟩,
     ⟨some 38, none, .ld (.r 11) 11 0 80 3 true⟩,
     ⟨some 39, none, .bsl 1 3 true [(0, 3, (.r 38))] [.bool false, .nil0, .int .i64 0]⟩,
     ⟨some 40, none, .call false false 66 [(.r 37), (.r 39)]⟩,
     ⟨some 41, none, .call false false 58 [(.i .i64 1), (.i .i64 0)]⟩,
     ⟨some 42, none, .ld (.r 12) 12 0 83 3 true⟩,
     ⟨some 43, none, .bsl 1 3 true [(0, 3, (.r 42))] [.bool false, .nil0, .int .i64 0]⟩,
     ⟨some 44, none, .call false false 66 [(.r 41), (.r 43)]⟩,
     ⟨some 45, none, .bsl 2 3 true [(0, 3, (.r 40)), (3, 3, (.r 44))] [.bool false, .nil0, .int .i64 0]⟩,
     ⟨some 46, none, .call false false 65 [(.r 36), (.r 45)]⟩,
     ⟨none, none, .st (.r 13) 13 0 86 3 (.r 46)⟩])
  (.skip))) 
  (.seq (.reg [⟨some 47, none, .fad (.r 4) 0⟩,
    ⟨some 48, none, .ld (.r 47) 4 0 64 3 true⟩,
    ⟨some 49, none, .bld [(0, 3, (.r 48))] [.bool false, .nil0, .int .i64 0]⟩,
    ⟨some 50, none, .ld (.r 11) 11 0 80 3 true⟩,
    ⟨some 51, none, .ld (.r 12) 12 0 83 3 true⟩,
    ⟨some 52, none, .bsl 2 3 true [(0, 3, (.r 50)), (3, 3, (.r 51))] [.bool false, .nil0, .int .i64 0]⟩,
    ⟨some 53, none, .call false false 65 [(.r 49), (.r 52)]⟩,
    ⟨some 54, none, .ld (.r 13) 13 0 86 3 true⟩,
    ⟨some 55, none, .bsl 1 3 true [(0, 3, (.r 54))] [.bool false, .nil0, .int .i64 0]⟩,
    ⟨some 56, none, .call false false 66 [(.r 53), (.r 55)]⟩,
    ⟨some 14, none, .mk 89 [.bool false, .nil0, .int .i64 0]⟩,
    ⟨none, none, .st (.r 14) 14 0 89 3 (.r 56)⟩]) 
  (.seq (.reg [⟨some 57, none, .fad (.r 14) 0⟩,
    ⟨some 58, none, .ld (.r 57) 14 0 89 3 true⟩,
    ⟨some 59, none, .call false false 68 [(.r 58)]⟩,
    ⟨some 60, none, .ext (.r 59) 0⟩,
    ⟨some 61, none, .ext (.r 59) 1⟩,
    ⟨some 62, none, .call false false 67 [(.r 60), (.r 61)]⟩,
    ⟨some 63, none, .fld (.r 62) 0 3 true⟩,
    ⟨none, none, .st (.r 8) 8 0 76 3 (.r 63)⟩,
    ⟨none, none, .st (.r 9) 9 0 79 1 (.i .i64 0)⟩]) 
  (.ret))))))),
  [.cell 8 8 76 3, .one 9 9 79]⟩
theorem chk40 : chkF Tryz.prog 40 ir40 = true := by kernel_rfl
/-- vernier/dyadic.Cmp -/
def ir41 : FnIr := ⟨⟨27, 37, 37, [(2, 27, 3), (3, 30, 3), (7, 33, 2), (8, 35, 2)]⟩,
  .seq (.reg [⟨some 2, none, .box 27 3 (.r 0)⟩,
    ⟨some 3, none, .box 30 3 (.r 1)⟩,
    ⟨some 4, none, .mov (.i .i64 0)⟩,
    ⟨some 5, none, .mov (.i .i64 0)⟩]) 
  (.seq (.seq (.reg [⟨some 10, none, .ld (.r 2) 2 0 27 3 true⟩,
    ⟨some 11, none, .ld (.r 3) 3 0 30 3 true⟩,
    ⟨some 12, none, .bsl 2 3 true [(0, 3, (.r 10)), (3, 3, (.r 11))] [.bool false, .nil0, .int .i64 0]⟩,
    ⟨some 13, none, .call false false 69 [(.r 12)]⟩,
    ⟨some 6, none, .mov (.r 13)⟩]) 
  (.seq (.reg [⟨some 14, none, .mov (.r 6)⟩,
    ⟨some 15, none, .bin false .neq (.r 14) (.i .i64 0)⟩]) 
  (.cond (.r 15)
  (.seq (.reg [⟨some 16, none, .mov (.r 6)⟩,
     ⟨some 4, none, .mov (.i .i64 0)⟩,
     ⟨some 5, none, .mov (.r 16)⟩]) 
   (.ret))
  (.skip)))) 
  (.seq (.reg [⟨some 18, none, .ld (.r 2) 2 0 27 3 true⟩,
    ⟨some 19, none, .ld (.r 3) 3 0 30 3 true⟩,
    ⟨some 20, none, .call false false 70 [(.r 18), (.r 19)]⟩,
    ⟨some 17, none, .mov (.r 20)⟩,
    ⟨some 21, none, .ext (.r 17) 0⟩,
    ⟨some 22, none, .ext (.r 17) 1⟩,
    ⟨some 23, none, .ext (.r 17) 2⟩,
    ⟨some 7, none, .mk 33 [.bool false, .nil0]⟩,
    ⟨some 8, none, .mk 35 [.bool false, .nil0]⟩,
    ⟨none, none, .st (.r 7) 7 0 33 2 (.r 21)⟩,
    ⟨none, none, .st (.r 8) 8 0 35 2 (.r 22)⟩,
    ⟨some 9, none, .mov (.r 23)⟩]) 
  (.seq (.reg [⟨some 24, none, .ld (.r 7) 7 0 33 2 true⟩,
    ⟨some 25, none, .ld (.r 8) 8 0 35 2 true⟩,
    ⟨some 26, none, .call false false 71 [(.r 24), (.r 25)]⟩,
    ⟨some 4, none, .mov (.r 26)⟩,
    ⟨some 5, none, .mov (.i .i64 0)⟩]) 
  (.ret)))),
  [.tmp 4, .tmp 5]⟩
theorem chk41 : chkF Tryz.prog 41 ir41 = true := by kernel_rfl
/-- vernier/cert.value -/
def ir42 : FnIr := ⟨⟨31, 52, 52, [(4, 31, 6), (5, 37, 3), (6, 40, 3), (8, 43, 3), (10, 46, 3), (12, 49, 3)]⟩,
  .seq (.reg [⟨some 4, none, .box 31 6 (.r 0)⟩,
    ⟨some 5, none, .box 37 3 (.r 1)⟩,
    ⟨some 6, none, .box 40 3 (.r 2)⟩,
    ⟨some 8, none, .mk 43 [.bool false, .nil0, .int .i64 0]⟩,
    ⟨some 9, none, .mov (.i .i64 0)⟩]) 
  (.seq (.reg [⟨some 15, none, .ld (.r 5) 5 0 37 3 true⟩,
    ⟨some 16, none, .call false false 39 [(.r 15)]⟩,
    ⟨some 14, none, .mov (.r 16)⟩,
    ⟨some 17, none, .ext (.r 14) 0⟩,
    ⟨some 18, none, .ext (.r 14) 1⟩,
    ⟨some 10, none, .mk 46 [.bool false, .nil0, .int .i64 0]⟩,
    ⟨none, none, .st (.r 10) 10 0 46 3 (.r 17)⟩,
    ⟨some 11, none, .mov (.r 18)⟩]) 
  (.seq (.reg [⟨some 20, none, .ld (.r 6) 6 0 40 3 true⟩,
    ⟨some 21, none, .call false false 39 [(.r 20)]⟩,
    ⟨some 19, none, .mov (.r 21)⟩,
    ⟨some 22, none, .ext (.r 19) 0⟩,
    ⟨some 23, none, .ext (.r 19) 1⟩,
    ⟨some 12, none, .mk 49 [.bool false, .nil0, .int .i64 0]⟩,
    ⟨none, none, .st (.r 12) 12 0 49 3 (.r 22)⟩,
    ⟨some 13, none, .mov (.r 23)⟩]) 
  (.seq (.reg [⟨some 24, none, .ld (.r 4) 4 0 31 6 true⟩,
    ⟨some 25, none, .ld (.r 10) 10 0 46 3 true⟩,
    ⟨some 26, none, .ld (.r 12) 12 0 49 3 true⟩,
    ⟨some 27, none, .mov (.r 3)⟩,
    ⟨some 28, none, .call false false 40 [(.r 24), (.r 25), (.r 26), (.r 27)]⟩,
    ⟨some 29, none, .ext (.r 28) 0⟩,
    ⟨some 30, none, .ext (.r 28) 1⟩,
    ⟨none, none, .st (.r 8) 8 0 43 3 (.r 29)⟩,
    ⟨some 9, none, .mov (.r 30)⟩]) 
  (.ret)))),
  [.cell 8 8 43 3, .tmp 9]⟩
theorem chk42 : chkF Tryz.prog 42 ir42 = true := by kernel_rfl
/-- vernier/cert.told -/
def ir43 : FnIr := ⟨⟨25, 38, 38, [(3, 25, 3), (4, 28, 3), (6, 31, 7)]⟩,
  .seq (.reg [⟨some 3, none, .box 25 3 (.r 0)⟩,
    ⟨some 4, none, .box 28 3 (.r 1)⟩,
    ⟨some 6, none, .mk 31 [.bool false, .nil0, .int .i64 0, .bool false, .nil0, .int .i64 0, .bool false]⟩,
    ⟨some 7, none, .mov (.i .i64 0)⟩]) 
  (.seq (.seq (.reg [⟨some 9, none, .mov (.r 2)⟩,
    ⟨some 10, none, .bin false .neq (.r 9) (.i .i64 0)⟩]) 
  (.cond (.r 10)
  (.seq (.reg [⟨some 11, none, .bld [] [.bool false, .nil0, .int .i64 0, .bool false, .nil0, .int .i64 0, .bool false]⟩,
     ⟨some 12, none, .mov (.r 2)⟩,
     ⟨none, none, .st (.r 6) 6 0 31 7 (.r 11)⟩,
     ⟨some 7, none, .mov (.r 12)⟩]) 
   (.ret))
  (.skip))) 
  (.seq (.reg [⟨some 14, none, .ld (.r 4) 4 0 28 3 true⟩,
    ⟨some 15, none, .ld (.r 3) 3 0 25 3 true⟩,
    ⟨some 16, none, .call false false 41 [(.r 14), (.r 15)]⟩,
    ⟨some 13, none, .mov (.r 16)⟩,
    ⟨some 17, none, .ext (.r 13) 0⟩,
    ⟨some 18, none, .ext (.r 13) 1⟩,
    ⟨some 8, none, .mov (.r 17)⟩,
    ⟨some 2, none, .mov (.r 18)⟩]) 
  (.seq (.reg [⟨some 19, none, .ld (.r 3) 3 0 25 3 true⟩,
    ⟨some 20, none, .ld (.r 4) 4 0 28 3 true⟩,
    ⟨some 21, none, .mov (.r 8)⟩,
    ⟨some 22, none, .bin false .leq (.r 21) (.i .i64 0)⟩,
    ⟨some 23, none, .bld [(0, 3, (.r 19)), (3, 3, (.r 20)), (6, 1, (.r 22))] [.bool false, .nil0, .int .i64 0, .bool false, .nil0, .int .i64 0, .bool false]⟩,
    ⟨some 24, none, .mov (.r 2)⟩,
    ⟨none, none, .st (.r 6) 6 0 31 7 (.r 23)⟩,
    ⟨some 7, none, .mov (.r 24)⟩]) 
  (.ret)))),
  [.cell 6 6 31 7, .tmp 7]⟩
theorem chk43 : chkF Tryz.prog 43 ir43 = true := by kernel_rfl
/-- vernier/bound.product -/
def ir44 : FnIr := ⟨⟨52, 64, 64, [(8, 52, 6), (9, 58, 6)]⟩,
  .seq (.reg [⟨some 8, none, .mk 52 [.bool false, .nil0, .int .i64 0, .bool false, .nil0, .int .i64 0]⟩]) 
  (.seq (.seq (.reg [⟨some 10, none, .mov (.r 0)⟩,
    ⟨some 11, none, .mov (.r 1)⟩,
    ⟨some 12, none, .mov (.r 2)⟩,
    ⟨some 13, none, .mov (.r 3)⟩,
    ⟨some 14, none, .call false false 72 [(.r 10), (.r 11), (.r 12), (.r 13)]⟩,
    ⟨some 15, none, .un .not (.r 14)⟩]) 
  (.cond (.r 15)
  (.seq (.reg [⟨some 16, none, .mov (.r 1)⟩,
     ⟨some 17, none, .call false false 73 [(.r 16)]⟩,
     ⟨none, none, .st (.r 8) 8 0 52 6 (.r 17)⟩]) 
   (.ret))
  (.skip))) 
  (.seq (.reg [⟨some 18, none, .mov (.r 1)⟩,
    ⟨some 19, none, .bin false .quo (.r 18) (.i .i64 2)⟩,
    ⟨some 20, none, .mov (.r 0)⟩,
    ⟨some 21, none, .bin false .quo (.r 20) (.i .i64 2)⟩,
    ⟨some 22, none, .mov (.r 1)⟩,
    ⟨some 23, none, .bin false .quo (.r 22) (.i .i64 2)⟩,
    ⟨some 24, none, .mov (.r 2)⟩,
    ⟨some 25, none, .bin false .quo (.r 24) (.i .i64 2)⟩,
    ⟨some 26, none, .mov (.r 3)⟩,
    ⟨some 27, none, .call false false 44 [(.r 21), (.r 23), (.r 25), (.r 26)]⟩,
    ⟨some 28, none, .bld [(0, 1, (.r 19)), (1, 6, (.r 27))] [.int .i64 0, .bool false, .nil0, .int .i64 0, .bool false, .nil0, .int .i64 0]⟩,
    ⟨some 29, none, .call false false 74 [(.r 28)]⟩,
    ⟨some 9, none, .mk 58 [.bool false, .nil0, .int .i64 0, .bool false, .nil0, .int .i64 0]⟩,
    ⟨none, none, .st (.r 9) 9 0 58 6 (.r 29)⟩]) 
  (.seq (.seq (.reg [⟨some 30, none, .mov (.r 1)⟩,
    ⟨some 31, none, .bin false .rem (.r 30) (.i .i64 2)⟩,
    ⟨some 32, none, .bin false .eql (.r 31) (.i .i64 1)⟩]) 
  (.cond (.r 32)
  (.reg [⟨some 33, none, .ld (.r 9) 9 0 58 6 true⟩,
     ⟨some 34, none, .mov (.r 1)⟩,
     ⟨some 35, none, .bin false .sub (.r 34) (.i .i64 1)⟩,
     ⟨some 36, none, .call false false 75 [(.r 33), (.r 35)]⟩,
     ⟨none, none, .st (.r 9) 9 0 58 6 (.r 36)⟩])
  (.skip))) 
  (.seq (.seq (.reg [⟨some 37, none, .mov (.r 0)⟩,
    ⟨some 38, none, .bin false .rem (.r 37) (.i .i64 2)⟩,
    ⟨some 39, none, .bin false .eql (.r 38) (.i .i64 1)⟩,
    ⟨some 40, none, .mov (.r 39)⟩,
    ⟨some 41, some (40, false), .mov (.r 2)⟩,
    ⟨some 42, some (40, false), .bin false .rem (.r 41) (.i .i64 2)⟩,
    ⟨some 43, some (40, false), .bin false .eql (.r 42) (.i .i64 1)⟩,
    ⟨some 44, none, .pick (.r 40) (.b true) (.r 43)⟩]) 
  (.cond (.r 44)
  (.reg [⟨some 45, none, .ld (.r 9) 9 0 58 6 true⟩,
     ⟨some 46, none, .mov (.r 1)⟩,
     ⟨some 47, none, .call false false 73 [(.r 46)]⟩,
     ⟨some 48, none, .bsl 1 6 true [(0, 6, (.r 47))] [.bool false, .nil0, .int .i64 0, .bool false, .nil0, .int .i64 0]⟩,
     ⟨some 49, none, .call false false 60 [(.r 45), (.r 48)]⟩,
     ⟨none, none, .st (.r 9) 9 0 58 6 (.r 49)⟩])
  (.skip))) 
  (.seq (.reg [⟨some 50, none, .ld (.r 9) 9 0 58 6 true⟩,
    ⟨some 51, none, .call false false 62 [(.r 50)]⟩,
    ⟨none, none, .st (.r 8) 8 0 52 6 (.r 51)⟩]) 
  (.ret)))))),
  [.cell 8 8 52 6]⟩
theorem chk44 : chkF Tryz.prog 44 ir44 = true := by kernel_rfl
/-- vernier/bound.lu -/
def ir46 : FnIr := ⟨⟨46, 58, 58, [(6, 46, 6), (9, 52, 6)]⟩,
  .seq (.reg [⟨some 6, none, .mk 46 [.bool false, .nil0, .int .i64 0, .bool false, .nil0, .int .i64 0]⟩]) 
  (.seq (.seq (.reg [⟨some 10, none, .mov (.r 1)⟩,
    ⟨some 11, none, .bin false .eql (.r 10) (.i .i64 1)⟩]) 
  (.cond (.r 11)
  (.seq (.reg [⟨some 12, none, .call false false 59 []⟩,
     ⟨none, none, .st (.r 6) 6 0 46 6 (.r 12)⟩]) 
   (.ret))
  (.skip))) 
  (.seq (.reg [⟨some 13, none, .mov (.r 1)⟩,
    ⟨some 14, none, .bin false .quo (.r 13) (.i .i64 2)⟩,
    ⟨some 15, none, .mov (.r 1)⟩,
    ⟨some 16, none, .mov (.r 1)⟩,
    ⟨some 17, none, .bin false .quo (.r 16) (.i .i64 2)⟩,
    ⟨some 18, none, .bin false .sub (.r 15) (.r 17)⟩,
    ⟨some 7, none, .mov (.r 14)⟩,
    ⟨some 8, none, .mov (.r 18)⟩]) 
  (.seq (.reg [⟨some 19, none, .mov (.r 0)⟩,
    ⟨some 20, none, .mov (.r 7)⟩,
    ⟨some 21, none, .bin false .sub (.r 19) (.r 20)⟩,
    ⟨some 22, none, .mov (.r 7)⟩,
    ⟨some 23, none, .mov (.r 8)⟩,
    ⟨some 24, none, .mov (.r 2)⟩,
    ⟨some 25, none, .call false false 44 [(.r 21), (.r 22), (.r 23), (.r 24)]⟩,
    ⟨some 26, none, .mov (.r 0)⟩,
    ⟨some 27, none, .mov (.r 7)⟩,
    ⟨some 28, none, .bin false .sub (.r 26) (.r 27)⟩,
    ⟨some 29, none, .mov (.r 8)⟩,
    ⟨some 30, none, .mov (.r 2)⟩,
    ⟨some 31, none, .call false false 46 [(.r 28), (.r 29), (.r 30)]⟩,
    ⟨some 32, none, .mov (.r 8)⟩,
    ⟨some 33, none, .call false false 61 [(.r 25), (.r 31), (.r 32)]⟩,
    ⟨some 9, none, .mk 52 [.bool false, .nil0, .int .i64 0, .bool false, .nil0, .int .i64 0]⟩,
    ⟨none, none, .st (.r 9) 9 0 52 6 (.r 33)⟩]) 
  (.seq (.reg [⟨some 34, none, .mov (.r 0)⟩,
    ⟨some 35, none, .mov (.r 7)⟩,
    ⟨some 36, none, .mov (.r 2)⟩,
    ⟨some 37, none, .call false false 46 [(.r 34), (.r 35), (.r 36)]⟩,
    ⟨some 38, none, .mov (.r 7)⟩,
    ⟨some 39, none, .mov (.r 8)⟩,
    ⟨some 40, none, .mov (.r 2)⟩,
    ⟨some 41, none, .call false false 37 [(.r 38), (.r 39), (.b false), (.b true), (.r 40)]⟩,
    ⟨some 42, none, .ld (.r 9) 9 0 52 6 true⟩,
    ⟨some 43, none, .bsl 2 6 true [(0, 6, (.r 41)), (6, 6, (.r 42))] [.bool false, .nil0, .int .i64 0, .bool false, .nil0, .int .i64 0]⟩,
    ⟨some 44, none, .call false false 60 [(.r 37), (.r 43)]⟩,
    ⟨some 45, none, .call false false 62 [(.r 44)]⟩,
    ⟨none, none, .st (.r 6) 6 0 46 6 (.r 45)⟩]) 
  (.ret))))),
  [.cell 6 6 46 6]⟩
theorem chk46 : chkF Tryz.prog 46 ir46 = true := by kernel_rfl
/-- vernier/mat.Cut -/
def ir47 : FnIr := ⟨⟨59, 68, 69, [(5, 59, 3), (10, 62, 3), (13, 65, 3)]⟩,
  .seq (.reg [⟨some 5, none, .box 59 3 (.r 0)⟩,
    ⟨some 10, none, .mk 62 [.int .i64 0, .int .i64 0, .nil0]⟩,
    ⟨some 11, none, .mov (.i .i64 0)⟩]) 
  (.seq (.seq (.reg [⟨some 15, none, .ld (.r 5) 5 0 59 3 true⟩,
    ⟨some 16, none, .call false false 25 [(.r 15)]⟩,
    ⟨some 12, none, .mov (.r 16)⟩]) 
  (.seq (.reg [⟨some 17, none, .mov (.r 12)⟩,
    ⟨some 18, none, .bin false .neq (.r 17) (.i .i64 0)⟩]) 
  (.cond (.r 18)
  (.seq (.reg [⟨some 19, none, .bld [] [.int .i64 0, .int .i64 0, .nil0]⟩,
     ⟨some 20, none, .mov (.r 12)⟩,
     ⟨none, none, .st (.r 10) 10 0 62 3 (.r 19)⟩,
     ⟨some 11, none, .mov (.r 20)⟩]) 
   (.ret))
  (.skip)))) 
  (.seq (.seq (.reg [⟨some 21, none, .mov (.r 1)⟩,
    ⟨some 22, none, .mov (.r 3)⟩,
    ⟨some 23, none, .fad (.r 5) 0⟩,
    ⟨some 24, none, .ld (.r 23) 5 0 59 1 false⟩,
    ⟨some 25, none, .call false false 79 [(.r 21), (.r 22), (.r 24)]⟩,
    ⟨some 26, none, .un .not (.r 25)⟩,
    ⟨some 27, none, .mov (.r 26)⟩,
    ⟨some 28, some (27, false), .mov (.r 2)⟩,
    ⟨some 29, some (27, false), .mov (.r 4)⟩,
    ⟨some 30, some (27, false), .fad (.r 5) 1⟩,
    ⟨some 31, some (27, false), .ld (.r 30) 5 1 60 1 false⟩,
    ⟨some 32, some (27, false), .call false false 79 [(.r 28), (.r 29), (.r 31)]⟩,
    ⟨some 33, some (27, false), .un .not (.r 32)⟩,
    ⟨some 34, none, .pick (.r 27) (.b true) (.r 33)⟩]) 
  (.cond (.r 34)
  (.seq (.reg [⟨some 35, none, .bld [] [.int .i64 0, .int .i64 0, .nil0]⟩,
     ⟨none, none, .st (.r 10) 10 0 62 3 (.r 35)⟩,
     ⟨some 11, none, .mov (.i .i64 4)⟩]) 
   (.ret))
  (.skip))) 
  (.seq (.reg [⟨some 36, none, .mov (.r 3)⟩,
    ⟨some 37, none, .mov (.r 4)⟩,
    ⟨some 38, none, .bld [(0, 1, (.r 36)), (1, 1, (.r 37))] [.int .i64 0, .int .i64 0, .nil0]⟩,
    ⟨some 13, none, .mk 65 [.int .i64 0, .int .i64 0, .nil0]⟩,
    ⟨none, none, .st (.r 13) 13 0 65 3 (.r 38)⟩]) 
  (.seq (.seq (.reg [⟨some 39, none, .mov (.r 3)⟩,
    ⟨some 40, none, .mov (.i .i64 0)⟩]) 
  (.block 0 (.kil ⟨[14, 41, 42, 43, 44, 45, 46, 47, 48, 49, 50, 51, 52, 53, 54, 55, 56, 57], [], [], []⟩ (.loop ⟨[14, 41, 42, 43, 44, 45, 46, 47, 48, 49, 50, 51, 52, 53, 54, 55, 56, 57], [], [], []⟩ (.seq (.reg [⟨some 41, none, .bin false .lss (.r 40) (.r 39)⟩]) 
    (.seq (.cond (.r 41)
    (.skip)
    (.exit 0)) 
    (.seq (.block 1 (.seq (.reg [⟨some 42, none, .mov (.r 40)⟩,
       ⟨some 14, none, .mov (.r 42)⟩]) 
     (.reg [⟨some 43, none, .fad (.r 13) 2⟩,
       ⟨some 44, none, .ld (.r 43) 13 2 67 1 false⟩,
       ⟨some 45, none, .ld (.r 5) 5 0 59 3 true⟩,
       ⟨some 46, none, .mov (.r 1)⟩,
       ⟨some 47, none, .mov (.r 14)⟩,
       ⟨some 48, none, .bin false .add (.r 46) (.r 47)⟩,
       ⟨some 49, none, .call false false 80 [(.r 45), (.r 48)]⟩,
       ⟨some 50, none, .mov (.r 2)⟩,
       ⟨some 51, none, .mov (.r 2)⟩,
       ⟨some 52, none, .mov (.r 4)⟩,
       ⟨some 53, none, .bin false .add (.r 51) (.r 52)⟩,
       ⟨some 54, none, .slc 1 (.r 49) (some (.r 50)) (some (.r 53))⟩,
       ⟨some 55, none, .app (.r 44) (.r 54) 0 1 8 58⟩,
       ⟨some 56, none, .fad (.r 13) 2⟩,
       ⟨none, none, .st (.r 56) 13 2 67 1 (.r 55)⟩]))) 
    (.reg [⟨some 57, none, .bin false .add (.r 40) (.i .i64 1)⟩,
      ⟨some 40, none, .mov (.r 57)⟩])))))))) 
  (.seq (.reg [⟨some 58, none, .ld (.r 13) 13 0 65 3 true⟩,
    ⟨none, none, .st (.r 10) 10 0 62 3 (.r 58)⟩,
    ⟨some 11, none, .mov (.i .i64 0)⟩]) 
  (.ret)))))),
  [.cell 10 10 62 3, .tmp 11]⟩
theorem chk47 : chkF Tryz.prog 47 ir47 = true := by kernel_rfl
/-- (vernier/resid.grid).turned -/
def ir48 : FnIr := ⟨⟨33, 42, 43, [(1, 33, 3), (2, 36, 3), (3, 39, 3)]⟩,
  .seq (.reg [⟨some 1, none, .box 33 3 (.r 0)⟩,
    ⟨some 2, none, .mk 36 [.int .i64 0, .int .i64 0, .nil0]⟩]) 
  (.seq (.reg [⟨some 6, none, .fad (.r 1) 1⟩,
    ⟨some 7, none, .ld (.r 6) 1 1 34 1 false⟩,
    ⟨some 8, none, .fad (.r 1) 0⟩,
    ⟨some 9, none, .ld (.r 8) 1 0 33 1 false⟩,
    ⟨some 10, none, .bld [(0, 1, (.r 7)), (1, 1, (.r 9))] [.int .i64 0, .int .i64 0, .nil0]⟩,
    ⟨some 3, none, .mk 39 [.int .i64 0, .int .i64 0, .nil0]⟩,
    ⟨none, none, .st (.r 3) 3 0 39 3 (.r 10)⟩]) 
  (.seq (.seq (.reg [⟨some 11, none, .fad (.r 1) 1⟩,
    ⟨some 12, none, .ld (.r 11) 1 1 34 1 false⟩,
    ⟨some 13, none, .mov (.i .i64 0)⟩]) 
  (.block 0 (.kil ⟨[4, 5, 14, 15, 16, 17, 18, 19, 20, 21, 22, 23, 24, 25, 26, 27, 28, 29, 30, 31], [], [], []⟩ (.loop ⟨[4, 5, 14, 15, 16, 17, 18, 19, 20, 21, 22, 23, 24, 25, 26, 27, 28, 29, 30, 31], [], [], []⟩ (.seq (.reg [⟨some 14, none, .bin false .lss (.r 13) (.r 12)⟩]) 
    (.seq (.cond (.r 14)
    (.skip)
    (.exit 0)) 
    (.seq (.block 1 (.seq (.reg [⟨some 15, none, .mov (.r 13)⟩,
       ⟨some 4, none, .mov (.r 15)⟩]) 
     (.seq (.reg [⟨some 16, none, .fad (.r 1) 0⟩,
       ⟨some 17, none, .ld (.r 16) 1 0 33 1 false⟩,
       ⟨some 18, none, .mov (.i .i64 0)⟩]) 
     (.block 2 (.kil ⟨[5, 19, 20, 21, 22, 23, 24, 25, 26, 27, 28, 29, 30], [], [], []⟩ (.loop ⟨[5, 19, 20, 21, 22, 23, 24, 25, 26, 27, 28, 29, 30], [], [], []⟩ (.seq (.reg [⟨some 19, none, .bin false .lss (.r 18) (.r 17)⟩]) 
       (.seq (.cond (.r 19)
       (.skip)
       (.exit 2)) 
       (.seq (.block 3 (.seq (.reg [⟨some 20, none, .mov (.r 18)⟩,
          ⟨some 5, none, .mov (.r 20)⟩]) 
        (.reg [⟨some 21, none, .fad (.r 3) 2⟩,
          ⟨some 22, none, .ld (.r 21) 3 2 41 1 false⟩,
          ⟨some 23, none, .ld (.r 1) 1 0 33 3 true⟩,
          ⟨some 24, none, .mov (.r 5)⟩,
          ⟨some 25, none, .mov (.r 4)⟩,
          ⟨some 26, none, .call false false 56 [(.r 23), (.r 24), (.r 25)]⟩,
          ⟨some 27, none, .bsl 1 3 true [(0, 3, (.r 26))] [.bool false, .nil0, .int .i64 0]⟩,
          ⟨some 28, none, .app (.r 22) (.r 27) 0 3 40 27⟩,
          ⟨some 29, none, .fad (.r 3) 2⟩,
          ⟨none, none, .st (.r 29) 3 2 41 1 (.r 28)⟩]))) 
       (.reg [⟨some 30, none, .bin false .add (.r 18) (.i .i64 1)⟩,
         ⟨some 18, none, .mov (.r 30)⟩])))))))))) 
    (.reg [⟨some 31, none, .bin false .add (.r 13) (.i .i64 1)⟩,
      ⟨some 13, none, .mov (.r 31)⟩])))))))) 
  (.seq (.reg [⟨some 32, none, .ld (.r 3) 3 0 39 3 true⟩,
    ⟨none, none, .st (.r 2) 2 0 36 3 (.r 32)⟩]) 
  (.ret)))),
  [.cell 2 2 36 3]⟩
theorem chk48 : chkF Tryz.prog 48 ir48 = true := by kernel_rfl
/-- vernier/bound.chol -/
def ir49 : FnIr := ⟨⟨43, 55, 55, [(4, 43, 6), (7, 49, 6)]⟩,
  .seq (.reg [⟨some 4, none, .mk 43 [.bool false, .nil0, .int .i64 0, .bool false, .nil0, .int .i64 0]⟩]) 
  (.seq (.seq (.reg [⟨some 8, none, .mov (.r 0)⟩,
    ⟨some 9, none, .bin false .eql (.r 8) (.i .i64 1)⟩]) 
  (.cond (.r 9)
  (.seq (.reg [⟨some 10, none, .call false false 58 [(.i .i64 1), (.i .i64 (-52))]⟩,
     ⟨some 11, none, .call false false 58 [(.i .i64 1), (.i .i64 (-106))]⟩,
     ⟨some 12, none, .bsl 1 3 true [(0, 3, (.r 11))] [.bool false, .nil0, .int .i64 0]⟩,
     ⟨some 13, none, .call false false 66 [(.r 10), (.r 12)]⟩,
     ⟨some 14, none, .call false false 58 [(.i .i64 0), (.i .i64 0)]⟩,
     ⟨some 15, none, .bld [(0, 3, (.r 13)), (3, 3, (.r 14))] [.bool false, .nil0, .int .i64 0, .bool false, .nil0, .int .i64 0]⟩,
     ⟨none, none, .st (.r 4) 4 0 43 6 (.r 15)⟩]) 
   (.ret))
  (.skip))) 
  (.seq (.reg [⟨some 16, none, .mov (.r 0)⟩,
    ⟨some 17, none, .bin false .quo (.r 16) (.i .i64 2)⟩,
    ⟨some 18, none, .mov (.r 0)⟩,
    ⟨some 19, none, .mov (.r 0)⟩,
    ⟨some 20, none, .bin false .quo (.r 19) (.i .i64 2)⟩,
    ⟨some 21, none, .bin false .sub (.r 18) (.r 20)⟩,
    ⟨some 5, none, .mov (.r 17)⟩,
    ⟨some 6, none, .mov (.r 21)⟩]) 
  (.seq (.reg [⟨some 22, none, .mov (.r 6)⟩,
    ⟨some 23, none, .mov (.r 5)⟩,
    ⟨some 24, none, .mov (.r 6)⟩,
    ⟨some 25, none, .mov (.r 1)⟩,
    ⟨some 26, none, .call false false 44 [(.r 22), (.r 23), (.r 24), (.r 25)]⟩,
    ⟨some 27, none, .mov (.r 6)⟩,
    ⟨some 28, none, .mov (.r 1)⟩,
    ⟨some 29, none, .call false false 49 [(.r 27), (.r 28)]⟩,
    ⟨some 30, none, .mov (.r 6)⟩,
    ⟨some 31, none, .call false false 61 [(.r 26), (.r 29), (.r 30)]⟩,
    ⟨some 7, none, .mk 49 [.bool false, .nil0, .int .i64 0, .bool false, .nil0, .int .i64 0]⟩,
    ⟨none, none, .st (.r 7) 7 0 49 6 (.r 31)⟩]) 
  (.seq (.reg [⟨some 32, none, .mov (.r 5)⟩,
    ⟨some 33, none, .mov (.r 1)⟩,
    ⟨some 34, none, .call false false 49 [(.r 32), (.r 33)]⟩,
    ⟨some 35, none, .mov (.r 5)⟩,
    ⟨some 36, none, .mov (.r 6)⟩,
    ⟨some 37, none, .mov (.r 1)⟩,
    ⟨some 38, none, .call false false 37 [(.r 35), (.r 36), (.b false), (.b false), (.r 37)]⟩,
    ⟨some 39, none, .ld (.r 7) 7 0 49 6 true⟩,
    ⟨some 40, none, .bsl 2 6 true [(0, 6, (.r 38)), (6, 6, (.r 39))] [.bool false, .nil0, .int .i64 0, .bool false, .nil0, .int .i64 0]⟩,
    ⟨some 41, none, .call false false 60 [(.r 34), (.r 40)]⟩,
    ⟨some 42, none, .call false false 62 [(.r 41)]⟩,
    ⟨none, none, .st (.r 4) 4 0 43 6 (.r 42)⟩]) 
  (.ret))))),
  [.cell 4 4 43 6]⟩
theorem chk49 : chkF Tryz.prog 49 ir49 = true := by kernel_rfl
/-- vernier/shape.side -/
def ir50 : FnIr := ⟨⟨9, 9, 9, []⟩,
  .seq (.reg [⟨some 2, none, .mov (.b false)⟩]) 
  (.seq (.reg [⟨some 3, none, .mov (.r 0)⟩,
    ⟨some 4, none, .bin false .geq (.r 3) (.i .i64 1)⟩,
    ⟨some 5, none, .mov (.r 4)⟩,
    ⟨some 6, some (5, true), .mov (.r 0)⟩,
    ⟨some 7, some (5, true), .bin false .leq (.r 6) (.i .i64 64)⟩,
    ⟨some 8, none, .pick (.r 5) (.r 7) (.b false)⟩,
    ⟨some 2, none, .mov (.r 8)⟩]) 
  (.ret)),
  [.tmp 2]⟩
theorem chk50 : chkF Tryz.prog 50 ir50 = true := by kernel_rfl
/-- vernier/fconv.ToDyadic -/
def ir52 : FnIr := ⟨⟨27, 30, 30, [(2, 27, 3)]⟩,
  .seq (.reg [⟨some 2, none, .mk 27 [.bool false, .nil0, .int .i64 0]⟩,
    ⟨some 3, none, .mov (.i .i64 0)⟩]) 
  (.seq (.reg [⟨some 9, none, .mov (.r 0)⟩,
    ⟨some 10, none, .call false false 81 [(.r 9)]⟩,
    ⟨some 8, none, .mov (.r 10)⟩,
    ⟨some 11, none, .ext (.r 8) 0⟩,
    ⟨some 12, none, .ext (.r 8) 1⟩,
    ⟨some 13, none, .ext (.r 8) 2⟩,
    ⟨some 14, none, .ext (.r 8) 3⟩,
    ⟨some 4, none, .mov (.r 11)⟩,
    ⟨some 5, none, .mov (.r 12)⟩,
    ⟨some 6, none, .mov (.r 13)⟩,
    ⟨some 7, none, .mov (.r 14)⟩]) 
  (.seq (.seq (.reg [⟨some 15, none, .mov (.r 7)⟩,
    ⟨some 16, none, .bin false .neq (.r 15) (.i .i64 0)⟩]) 
  (.cond (.r 16)
  (.seq (.reg [⟨some 17, none, .bld [] [.bool false, .nil0, .int .i64 0]⟩,
     ⟨some 18, none, .mov (.r 7)⟩,
     ⟨none, none, .st (.r 2) 2 0 27 3 (.r 17)⟩,
     ⟨some 3, none, .mov (.r 18)⟩]) 
   (.ret))
  (.skip))) 
  (.seq (.reg [⟨some 19, none, .mov (.r 4)⟩,
    ⟨some 20, none, .mov (.r 5)⟩,
    ⟨some 21, none, .bsl 1 1 false [(0, 1, (.r 20))] [.int .u64 0]⟩,
    ⟨some 22, none, .mov (.r 6)⟩,
    ⟨some 23, none, .bld [(0, 1, (.r 19)), (1, 1, (.r 21)), (2, 1, (.r 22))] [.bool false, .nil0, .int .i64 0]⟩,
    ⟨some 24, none, .call false false 68 [(.r 23)]⟩,
    ⟨some 25, none, .ext (.r 24) 0⟩,
    ⟨some 26, none, .ext (.r 24) 1⟩,
    ⟨none, none, .st (.r 2) 2 0 27 3 (.r 25)⟩,
    ⟨some 3, none, .mov (.r 26)⟩]) 
  (.ret)))),
  [.cell 2 2 27 3, .tmp 3]⟩
theorem chk52 : chkF Tryz.prog 52 ir52 = true := by kernel_rfl
/-- vernier/resid.sub -/
def ir53 : FnIr := ⟨⟨14, 26, 26, [(2, 14, 3), (3, 17, 3), (4, 20, 3), (5, 23, 3)]⟩,
  .seq (.reg [⟨some 2, none, .box 14 3 (.r 0)⟩,
    ⟨some 3, none, .box 17 3 (.r 1)⟩,
    ⟨some 4, none, .mk 20 [.bool false, .nil0, .int .i64 0]⟩]) 
  (.seq (.reg [⟨some 8, none, .ld (.r 2) 2 0 14 3 true⟩,
    ⟨some 9, none, .ld (.r 3) 3 0 17 3 true⟩,
    ⟨some 10, none, .call false false 82 [(.r 8), (.r 9)]⟩,
    ⟨some 7, none, .mov (.r 10)⟩,
    ⟨some 11, none, .ext (.r 7) 0⟩,
    ⟨some 12, none, .ext (.r 7) 1⟩,
    ⟨some 5, none, .mk 23 [.bool false, .nil0, .int .i64 0]⟩,
    ⟨none, none, .st (.r 5) 5 0 23 3 (.r 11)⟩,
    ⟨some 6, none, .mov (.r 12)⟩]) 
  (.seq (.reg [⟨some 13, none, .ld (.r 5) 5 0 23 3 true⟩,
    ⟨none, none, .st (.r 4) 4 0 20 3 (.r 13)⟩]) 
  (.ret))),
  [.cell 4 4 20 3]⟩
theorem chk53 : chkF Tryz.prog 53 ir53 = true := by kernel_rfl
/-- vernier/resid.add -/
def ir54 : FnIr := ⟨⟨14, 26, 26, [(2, 14, 3), (3, 17, 3), (4, 20, 3), (5, 23, 3)]⟩,
  .seq (.reg [⟨some 2, none, .box 14 3 (.r 0)⟩,
    ⟨some 3, none, .box 17 3 (.r 1)⟩,
    ⟨some 4, none, .mk 20 [.bool false, .nil0, .int .i64 0]⟩]) 
  (.seq (.reg [⟨some 8, none, .ld (.r 2) 2 0 14 3 true⟩,
    ⟨some 9, none, .ld (.r 3) 3 0 17 3 true⟩,
    ⟨some 10, none, .call false false 83 [(.r 8), (.r 9)]⟩,
    ⟨some 7, none, .mov (.r 10)⟩,
    ⟨some 11, none, .ext (.r 7) 0⟩,
    ⟨some 12, none, .ext (.r 7) 1⟩,
    ⟨some 5, none, .mk 23 [.bool false, .nil0, .int .i64 0]⟩,
    ⟨none, none, .st (.r 5) 5 0 23 3 (.r 11)⟩,
    ⟨some 6, none, .mov (.r 12)⟩]) 
  (.seq (.reg [⟨some 13, none, .ld (.r 5) 5 0 23 3 true⟩,
    ⟨none, none, .st (.r 4) 4 0 20 3 (.r 13)⟩]) 
  (.ret))),
  [.cell 4 4 20 3]⟩
theorem chk54 : chkF Tryz.prog 54 ir54 = true := by kernel_rfl
/-- vernier/resid.mul -/
def ir55 : FnIr := ⟨⟨14, 26, 26, [(2, 14, 3), (3, 17, 3), (4, 20, 3), (5, 23, 3)]⟩,
  .seq (.reg [⟨some 2, none, .box 14 3 (.r 0)⟩,
    ⟨some 3, none, .box 17 3 (.r 1)⟩,
    ⟨some 4, none, .mk 20 [.bool false, .nil0, .int .i64 0]⟩]) 
  (.seq (.reg [⟨some 8, none, .ld (.r 2) 2 0 14 3 true⟩,
    ⟨some 9, none, .ld (.r 3) 3 0 17 3 true⟩,
    ⟨some 10, none, .call false false 84 [(.r 8), (.r 9)]⟩,
    ⟨some 7, none, .mov (.r 10)⟩,
    ⟨some 11, none, .ext (.r 7) 0⟩,
    ⟨some 12, none, .ext (.r 7) 1⟩,
    ⟨some 5, none, .mk 23 [.bool false, .nil0, .int .i64 0]⟩,
    ⟨none, none, .st (.r 5) 5 0 23 3 (.r 11)⟩,
    ⟨some 6, none, .mov (.r 12)⟩]) 
  (.seq (.reg [⟨some 13, none, .ld (.r 5) 5 0 23 3 true⟩,
    ⟨none, none, .st (.r 4) 4 0 20 3 (.r 13)⟩]) 
  (.ret))),
  [.cell 4 4 20 3]⟩
theorem chk55 : chkF Tryz.prog 55 ir55 = true := by kernel_rfl
/-- (vernier/resid.grid).at -/
def ir56 : FnIr := ⟨⟨22, 28, 28, [(3, 22, 3), (6, 25, 3)]⟩,
  .seq (.reg [⟨some 3, none, .box 22 3 (.r 0)⟩,
    ⟨some 6, none, .mk 25 [.bool false, .nil0, .int .i64 0]⟩]) 
  (.seq (.seq (.reg [⟨some 7, none, .mov (.r 1)⟩,
    ⟨some 8, none, .fad (.r 3) 0⟩,
    ⟨some 9, none, .ld (.r 8) 3 0 22 1 false⟩,
    ⟨some 10, none, .bin false .geq (.r 7) (.r 9)⟩]) 
  (.cond (.r 10)
  (.seq (.reg [⟨some 11, none, .bld [] [.bool false, .nil0, .int .i64 0]⟩,
     ⟨none, none, .st (.r 6) 6 0 25 3 (.r 11)⟩]) 
   (.ret))
  (.skip))) 
  (.seq (.reg [⟨some 12, none, .fad (.r 3) 2⟩,
    ⟨some 13, none, .ld (.r 12) 3 2 24 1 false⟩,
    ⟨some 14, none, .mov (.r 1)⟩,
    ⟨some 15, none, .fad (.r 3) 1⟩,
    ⟨some 16, none, .ld (.r 15) 3 1 23 1 false⟩,
    ⟨some 17, none, .bin false .mul (.r 14) (.r 16)⟩,
    ⟨some 18, none, .mov (.r 2)⟩,
    ⟨some 19, none, .bin false .add (.r 17) (.r 18)⟩,
    ⟨some 20, none, .eat false (.r 13) (.r 19) 3⟩,
    ⟨some 21, none, .lde false (.r 20) 3 true⟩,
    ⟨none, none, .st (.r 6) 6 0 25 3 (.r 21)⟩]) 
  (.ret))),
  [.cell 6 6 25 3]⟩
theorem chk56 : chkF Tryz.prog 56 ir56 = true := by kernel_rfl
/-- vernier/dyadic.Abs -/
def ir57 : FnIr := ⟨⟨9, 15, 15, [(1, 9, 3), (2, 12, 3)]⟩,
  .seq (.reg [⟨some 1, none, .box 9 3 (.r 0)⟩,
    ⟨some 2, none, .mk 12 [.bool false, .nil0, .int .i64 0]⟩,
    ⟨some 3, none, .mov (.i .i64 0)⟩]) 
  (.seq (.reg [⟨some 4, none, .fad (.r 1) 0⟩,
    ⟨none, none, .st (.r 4) 1 0 9 1 (.b false)⟩]) 
  (.seq (.reg [⟨some 5, none, .ld (.r 1) 1 0 9 3 true⟩,
    ⟨some 6, none, .call false false 68 [(.r 5)]⟩,
    ⟨some 7, none, .ext (.r 6) 0⟩,
    ⟨some 8, none, .ext (.r 6) 1⟩,
    ⟨none, none, .st (.r 2) 2 0 12 3 (.r 7)⟩,
    ⟨some 3, none, .mov (.r 8)⟩]) 
  (.ret))),
  [.cell 2 2 12 3, .tmp 3]⟩
theorem chk57 : chkF Tryz.prog 57 ir57 = true := by kernel_rfl
/-- vernier/bound.of -/
def ir58 : FnIr := ⟨⟨11, 14, 14, [(4, 11, 3)]⟩,
  .seq (.reg [⟨some 4, none, .mk 11 [.bool false, .nil0, .int .i64 0]⟩]) 
  (.seq (.reg [⟨some 5, none, .mov (.r 0)⟩,
    ⟨some 6, none, .mov (.r 1)⟩,
    ⟨some 7, none, .call false false 85 [(.r 5), (.r 6)]⟩,
    ⟨some 8, none, .ext (.r 7) 0⟩,
    ⟨some 9, none, .ext (.r 7) 1⟩,
    ⟨some 10, none, .call false false 67 [(.r 8), (.r 9)]⟩,
    ⟨none, none, .st (.r 4) 4 0 11 3 (.r 10)⟩]) 
  (.ret)),
  [.cell 4 4 11 3]⟩
theorem chk58 : chkF Tryz.prog 58 ir58 = true := by kernel_rfl
/-- vernier/bound.first -/
def ir59 : FnIr := ⟨⟨4, 10, 10, [(0, 4, 6)]⟩,
  .seq (.reg [⟨some 0, none, .mk 4 [.bool false, .nil0, .int .i64 0, .bool false, .nil0, .int .i64 0]⟩]) 
  (.seq (.reg [⟨some 1, none, .call false false 58 [(.i .i64 1), (.i .i64 (-53))]⟩,
    ⟨some 2, none, .call false false 58 [(.i .i64 1), (.i .i64 (-1075))]⟩,
    ⟨some 3, none, .bld [(0, 3, (.r 1)), (3, 3, (.r 2))] [.bool false, .nil0, .int .i64 0, .bool false, .nil0, .int .i64 0]⟩,
    ⟨none, none, .st (.r 0) 0 0 4 6 (.r 3)⟩]) 
  (.ret)),
  [.cell 0 0 4 6]⟩
theorem chk59 : chkF Tryz.prog 59 ir59 = true := by kernel_rfl
/-- (vernier/bound.pair).most -/
def ir60 : FnIr := ⟨⟨28, 46, 46, [(2, 28, 6), (4, 34, 6), (6, 40, 6)]⟩,
  .seq (.reg [⟨some 2, none, .box 28 6 (.r 0)⟩,
    ⟨some 4, none, .mk 34 [.bool false, .nil0, .int .i64 0, .bool false, .nil0, .int .i64 0]⟩]) 
  (.seq (.seq (.reg [⟨some 7, none, .mov (.r 1)⟩,
    ⟨some 8, none, .len false (.r 7)⟩,
    ⟨some 9, none, .mov (.i .i64 0)⟩]) 
  (.block 0 (.kil ⟨[6, 10, 11, 12, 13, 14, 15, 16, 17, 18, 19, 20, 21, 22, 23, 24, 25, 26, 40, 41, 42, 43, 44, 45], [6], [], []⟩ (.loop ⟨[6, 10, 11, 12, 13, 14, 15, 16, 17, 18, 19, 20, 21, 22, 23, 24, 25, 26, 40, 41, 42, 43, 44, 45], [6], [], []⟩ (.seq (.reg [⟨some 10, none, .bin false .lss (.r 9) (.r 8)⟩]) 
    (.seq (.cond (.r 10)
    (.skip)
    (.exit 0)) 
    (.seq (.block 1 (.seq (.reg [⟨some 11, none, .eat false (.r 7) (.r 9) 6⟩,
       ⟨some 12, none, .lde false (.r 11) 6 true⟩,
       ⟨some 6, none, .mk 40 [.bool false, .nil0, .int .i64 0, .bool false, .nil0, .int .i64 0]⟩,
       ⟨none, none, .st (.r 6) 6 0 40 6 (.r 12)⟩]) 
     (.reg [⟨some 13, none, .fad (.r 2) 0⟩,
       ⟨some 14, none, .ld (.r 13) 2 0 28 3 true⟩,
       ⟨some 15, none, .fad (.r 6) 0⟩,
       ⟨some 16, none, .ld (.r 15) 6 0 40 3 true⟩,
       ⟨some 17, none, .bsl 1 3 true [(0, 3, (.r 16))] [.bool false, .nil0, .int .i64 0]⟩,
       ⟨some 18, none, .call false false 86 [(.r 14), (.r 17)]⟩,
       ⟨some 19, none, .fad (.r 2) 3⟩,
       ⟨some 20, none, .ld (.r 19) 2 3 31 3 true⟩,
       ⟨some 21, none, .fad (.r 6) 3⟩,
       ⟨some 22, none, .ld (.r 21) 6 3 43 3 true⟩,
       ⟨some 23, none, .bsl 1 3 true [(0, 3, (.r 22))] [.bool false, .nil0, .int .i64 0]⟩,
       ⟨some 24, none, .call false false 86 [(.r 20), (.r 23)]⟩,
       ⟨some 25, none, .bld [(0, 3, (.r 18)), (3, 3, (.r 24))] [.bool false, .nil0, .int .i64 0, .bool false, .nil0, .int .i64 0]⟩,
       ⟨none, none, .st (.r 2) 2 0 28 6 (.r 25)⟩]))) 
    (.reg [⟨some 26, none, .bin false .add (.r 9) (.i .i64 1)⟩,
      ⟨some 9, none, .mov (.r 26)⟩])))))))) 
  (.seq (.reg [⟨some 27, none, .ld (.r 2) 2 0 28 6 true⟩,
    ⟨none, none, .st (.r 4) 4 0 34 6 (.r 27)⟩]) 
  (.ret))),
  [.cell 4 4 34 6]⟩
theorem chk60 : chkF Tryz.prog 60 ir60 = true := by kernel_rfl
/-- vernier/bound.rest -/
def ir61 : FnIr := ⟨⟨29, 47, 47, [(3, 29, 6), (4, 35, 6), (6, 41, 6)]⟩,
  .seq (.reg [⟨some 3, none, .box 29 6 (.r 0)⟩,
    ⟨some 4, none, .box 35 6 (.r 1)⟩,
    ⟨some 6, none, .mk 41 [.bool false, .nil0, .int .i64 0, .bool false, .nil0, .int .i64 0]⟩]) 
  (.seq (.reg [⟨some 7, none, .fad (.r 3) 0⟩,
    ⟨some 8, none, .ld (.r 7) 3 0 29 3 true⟩,
    ⟨some 9, none, .mov (.r 2)⟩,
    ⟨some 10, none, .call false false 58 [(.r 9), (.i .i64 0)]⟩,
    ⟨some 11, none, .fad (.r 4) 0⟩,
    ⟨some 12, none, .ld (.r 11) 4 0 35 3 true⟩,
    ⟨some 13, none, .bsl 1 3 true [(0, 3, (.r 12))] [.bool false, .nil0, .int .i64 0]⟩,
    ⟨some 14, none, .call false false 87 [(.r 10), (.r 13)]⟩,
    ⟨some 15, none, .fad (.r 4) 0⟩,
    ⟨some 16, none, .ld (.r 15) 4 0 35 3 true⟩,
    ⟨some 17, none, .bsl 2 3 true [(0, 3, (.r 14)), (3, 3, (.r 16))] [.bool false, .nil0, .int .i64 0]⟩,
    ⟨some 18, none, .call false false 66 [(.r 8), (.r 17)]⟩,
    ⟨some 19, none, .fad (.r 3) 3⟩,
    ⟨some 20, none, .ld (.r 19) 3 3 32 3 true⟩,
    ⟨some 21, none, .fad (.r 4) 3⟩,
    ⟨some 22, none, .ld (.r 21) 4 3 38 3 true⟩,
    ⟨some 23, none, .fad (.r 4) 3⟩,
    ⟨some 24, none, .ld (.r 23) 4 3 38 3 true⟩,
    ⟨some 25, none, .call false false 87 [(.r 24), .nil]⟩,
    ⟨some 26, none, .bsl 2 3 true [(0, 3, (.r 22)), (3, 3, (.r 25))] [.bool false, .nil0, .int .i64 0]⟩,
    ⟨some 27, none, .call false false 66 [(.r 20), (.r 26)]⟩,
    ⟨some 28, none, .bld [(0, 3, (.r 18)), (3, 3, (.r 27))] [.bool false, .nil0, .int .i64 0, .bool false, .nil0, .int .i64 0]⟩,
    ⟨none, none, .st (.r 6) 6 0 41 6 (.r 28)⟩]) 
  (.ret)),
  [.cell 6 6 41 6]⟩
theorem chk61 : chkF Tryz.prog 61 ir61 = true := by kernel_rfl
/-- (vernier/bound.pair).up -/
def ir62 : FnIr := ⟨⟨18, 30, 30, [(1, 18, 6), (2, 24, 6)]⟩,
  .seq (.reg [⟨some 1, none, .box 18 6 (.r 0)⟩,
    ⟨some 2, none, .mk 24 [.bool false, .nil0, .int .i64 0, .bool false, .nil0, .int .i64 0]⟩]) 
  (.seq (.reg [⟨some 3, none, .fad (.r 1) 0⟩,
    ⟨some 4, none, .fad (.r 3) 0⟩,
    ⟨some 5, none, .ld (.r 4) 1 0 18 3 true⟩,
    ⟨some 6, none, .call false false 88 [(.r 5), (.i .i64 128)]⟩,
    ⟨some 7, none, .ext (.r 6) 0⟩,
    ⟨some 8, none, .ext (.r 6) 1⟩,
    ⟨some 9, none, .call false false 67 [(.r 7), (.r 8)]⟩,
    ⟨some 10, none, .fad (.r 1) 3⟩,
    ⟨some 11, none, .fad (.r 10) 0⟩,
    ⟨some 12, none, .ld (.r 11) 1 3 21 3 true⟩,
    ⟨some 13, none, .call false false 88 [(.r 12), (.i .i64 128)]⟩,
    ⟨some 14, none, .ext (.r 13) 0⟩,
    ⟨some 15, none, .ext (.r 13) 1⟩,
    ⟨some 16, none, .call false false 67 [(.r 14), (.r 15)]⟩,
    ⟨some 17, none, .bld [(0, 3, (.r 9)), (3, 3, (.r 16))] [.bool false, .nil0, .int .i64 0, .bool false, .nil0, .int .i64 0]⟩,
    ⟨none, none, .st (.r 2) 2 0 24 6 (.r 17)⟩]) 
  (.ret)),
  [.cell 2 2 24 6]⟩
theorem chk62 : chkF Tryz.prog 62 ir62 = true := by kernel_rfl
/-- vernier/bound.checked -/
def ir63 : FnIr := ⟨⟨18, 21, 21, [(4, 18, 3)]⟩,
  .seq (.reg [⟨some 2, none, .mov (.i .i64 0)⟩]) 
  (.seq (.seq (.reg [⟨some 6, none, .mov (.r 0)⟩,
    ⟨some 7, none, .len false (.r 6)⟩,
    ⟨some 8, none, .mov (.i .i64 0)⟩]) 
  (.block 0 (.kil ⟨[4, 5, 9, 10, 11, 12, 13, 14, 15, 16, 17, 18, 19, 20], [4], [], []⟩ (.loop ⟨[4, 5, 9, 10, 11, 12, 13, 14, 15, 16, 17, 18, 19, 20], [4], [], []⟩ (.seq (.reg [⟨some 9, none, .bin false .lss (.r 8) (.r 7)⟩]) 
    (.seq (.cond (.r 9)
    (.skip)
    (.exit 0)) 
    (.seq (.block 1 (.seq (.reg [⟨some 10, none, .eat false (.r 6) (.r 8) 3⟩,
       ⟨some 11, none, .lde false (.r 10) 3 true⟩,
       ⟨some 4, none, .mk 18 [.bool false, .nil0, .int .i64 0]⟩,
       ⟨none, none, .st (.r 4) 4 0 18 3 (.r 11)⟩]) 
     (.seq (.reg [⟨some 12, none, .ld (.r 4) 4 0 18 3 true⟩,
       ⟨some 13, none, .call false false 89 [(.r 12)]⟩,
       ⟨some 5, none, .mov (.r 13)⟩]) 
     (.seq (.reg [⟨some 14, none, .mov (.r 5)⟩,
       ⟨some 15, none, .bin false .neq (.r 14) (.i .i64 0)⟩]) 
     (.cond (.r 15)
     (.seq (.reg [⟨some 16, none, .mov (.r 5)⟩,
        ⟨some 2, none, .mov (.r 16)⟩]) 
      (.ret))
     (.skip)))))) 
    (.reg [⟨some 17, none, .bin false .add (.r 8) (.i .i64 1)⟩,
      ⟨some 8, none, .mov (.r 17)⟩])))))))) 
  (.seq (.reg [⟨some 2, none, .mov (.i .i64 0)⟩]) 
  (.ret))),
  [.tmp 2]⟩
theorem chk63 : chkF Tryz.prog 63 ir63 = true := by kernel_rfl
/-- (vernier/bound.num).times -/
def ir65 : FnIr := ⟨⟨23, 32, 32, [(2, 23, 3), (4, 26, 3), (6, 29, 3)]⟩,
  .seq (.reg [⟨some 2, none, .box 23 3 (.r 0)⟩,
    ⟨some 4, none, .mk 26 [.bool false, .nil0, .int .i64 0]⟩]) 
  (.seq (.seq (.reg [⟨some 7, none, .mov (.r 1)⟩,
    ⟨some 8, none, .len false (.r 7)⟩,
    ⟨some 9, none, .mov (.i .i64 0)⟩]) 
  (.block 0 (.kil ⟨[6, 10, 11, 12, 13, 14, 15, 16, 17, 18, 19, 20, 21, 29, 30, 31], [6], [], []⟩ (.loop ⟨[6, 10, 11, 12, 13, 14, 15, 16, 17, 18, 19, 20, 21, 29, 30, 31], [6], [], []⟩ (.seq (.reg [⟨some 10, none, .bin false .lss (.r 9) (.r 8)⟩]) 
    (.seq (.cond (.r 10)
    (.skip)
    (.exit 0)) 
    (.seq (.block 1 (.seq (.reg [⟨some 11, none, .eat false (.r 7) (.r 9) 3⟩,
       ⟨some 12, none, .lde false (.r 11) 3 true⟩,
       ⟨some 6, none, .mk 29 [.bool false, .nil0, .int .i64 0]⟩,
       ⟨none, none, .st (.r 6) 6 0 29 3 (.r 12)⟩]) 
     (.reg [⟨some 13, none, .fad (.r 2) 0⟩,
       ⟨some 14, none, .ld (.r 13) 2 0 23 3 true⟩,
       ⟨some 15, none, .fad (.r 6) 0⟩,
       ⟨some 16, none, .ld (.r 15) 6 0 29 3 true⟩,
       ⟨some 17, none, .call false false 84 [(.r 14), (.r 16)]⟩,
       ⟨some 18, none, .ext (.r 17) 0⟩,
       ⟨some 19, none, .ext (.r 17) 1⟩,
       ⟨some 20, none, .call false false 67 [(.r 18), (.r 19)]⟩,
       ⟨none, none, .st (.r 2) 2 0 23 3 (.r 20)⟩]))) 
    (.reg [⟨some 21, none, .bin false .add (.r 9) (.i .i64 1)⟩,
      ⟨some 9, none, .mov (.r 21)⟩])))))))) 
  (.seq (.reg [⟨some 22, none, .ld (.r 2) 2 0 23 3 true⟩,
    ⟨none, none, .st (.r 4) 4 0 26 3 (.r 22)⟩]) 
  (.ret))),
  [.cell 4 4 26 3]⟩
theorem chk65 : chkF Tryz.prog 65 ir65 = true := by kernel_rfl
/-- (vernier/bound.num).plus -/
def ir66 : FnIr := ⟨⟨23, 32, 32, [(2, 23, 3), (4, 26, 3), (6, 29, 3)]⟩,
  .seq (.reg [⟨some 2, none, .box 23 3 (.r 0)⟩,
    ⟨some 4, none, .mk 26 [.bool false, .nil0, .int .i64 0]⟩]) 
  (.seq (.seq (.reg [⟨some 7, none, .mov (.r 1)⟩,
    ⟨some 8, none, .len false (.r 7)⟩,
    ⟨some 9, none, .mov (.i .i64 0)⟩]) 
  (.block 0 (.kil ⟨[6, 10, 11, 12, 13, 14, 15, 16, 17, 18, 19, 20, 21, 29, 30, 31], [6], [], []⟩ (.loop ⟨[6, 10, 11, 12, 13, 14, 15, 16, 17, 18, 19, 20, 21, 29, 30, 31], [6], [], []⟩ (.seq (.reg [⟨some 10, none, .bin false .lss (.r 9) (.r 8)⟩]) 
    (.seq (.cond (.r 10)
    (.skip)
    (.exit 0)) 
    (.seq (.block 1 (.seq (.reg [⟨some 11, none, .eat false (.r 7) (.r 9) 3⟩,
       ⟨some 12, none, .lde false (.r 11) 3 true⟩,
       ⟨some 6, none, .mk 29 [.bool false, .nil0, .int .i64 0]⟩,
       ⟨none, none, .st (.r 6) 6 0 29 3 (.r 12)⟩]) 
     (.reg [⟨some 13, none, .fad (.r 2) 0⟩,
       ⟨some 14, none, .ld (.r 13) 2 0 23 3 true⟩,
       ⟨some 15, none, .fad (.r 6) 0⟩,
       ⟨some 16, none, .ld (.r 15) 6 0 29 3 true⟩,
       ⟨some 17, none, .call false false 83 [(.r 14), (.r 16)]⟩,
       ⟨some 18, none, .ext (.r 17) 0⟩,
       ⟨some 19, none, .ext (.r 17) 1⟩,
       ⟨some 20, none, .call false false 67 [(.r 18), (.r 19)]⟩,
       ⟨none, none, .st (.r 2) 2 0 23 3 (.r 20)⟩]))) 
    (.reg [⟨some 21, none, .bin false .add (.r 9) (.i .i64 1)⟩,
      ⟨some 9, none, .mov (.r 21)⟩])))))))) 
  (.seq (.reg [⟨some 22, none, .ld (.r 2) 2 0 23 3 true⟩,
    ⟨none, none, .st (.r 4) 4 0 26 3 (.r 22)⟩]) 
  (.ret))),
  [.cell 4 4 26 3]⟩
theorem chk66 : chkF Tryz.prog 66 ir66 = true := by kernel_rfl
/-- vernier/bound.must -/
def ir67 : FnIr := ⟨⟨12, 18, 18, [(2, 12, 3), (4, 15, 3)]⟩,
  .seq (.reg [⟨some 2, none, .box 12 3 (.r 0)⟩,
    ⟨some 4, none, .mk 15 [.bool false, .nil0, .int .i64 0]⟩]) 
  (.seq (.seq (.reg [⟨some 5, none, .mov (.r 1)⟩,
    ⟨some 6, none, .bin false .neq (.r 5) (.i .i64 0)⟩]) 
  (.cond (.r 6)
  (.bad)
  (.skip))) 
  (.seq (.reg [⟨some 10, none, .ld (.r 2) 2 0 12 3 true⟩,
    ⟨some 11, none, .bld [(0, 3, (.r 10))] [.bool false, .nil0, .int .i64 0]⟩,
    ⟨none, none, .st (.r 4) 4 0 15 3 (.r 11)⟩]) 
  (.ret))),
  [.cell 4 4 15 3]⟩
theorem chk67 : chkF Tryz.prog 67 ir67 = true := by kernel_rfl
/-- vernier/dyadic.Norm -/
def ir68 : FnIr := ⟨⟨18, 24, 24, [(1, 18, 3), (2, 21, 3)]⟩,
  .seq (.reg [⟨some 1, none, .box 18 3 (.r 0)⟩,
    ⟨some 2, none, .mk 21 [.bool false, .nil0, .int .i64 0]⟩,
    ⟨some 3, none, .mov (.i .i64 0)⟩]) 
  (.seq (.seq (.reg [⟨some 5, none, .ld (.r 1) 1 0 18 3 true⟩,
    ⟨some 6, none, .call false false 89 [(.r 5)]⟩,
    ⟨some 4, none, .mov (.r 6)⟩]) 
  (.seq (.reg [⟨some 7, none, .mov (.r 4)⟩,
    ⟨some 8, none, .bin false .neq (.r 7) (.i .i64 0)⟩]) 
  (.cond (.r 8)
  (.seq (.reg [⟨some 9, none, .bld [] [.bool false, .nil0, .int .i64 0]⟩,
     ⟨some 10, none, .mov (.r 4)⟩,
     ⟨none, none, .st (.r 2) 2 0 21 3 (.r 9)⟩,
     ⟨some 3, none, .mov (.r 10)⟩]) 
   (.ret))
  (.skip)))) 
  (.seq (.reg [⟨some 11, none, .ld (.r 1) 1 0 18 3 true⟩,
    ⟨some 12, none, .call false false 91 [(.r 11)]⟩,
    ⟨some 13, none, .fad (.r 1) 2⟩,
    ⟨some 14, none, .ld (.r 13) 1 2 20 1 false⟩,
    ⟨some 15, none, .call false false 90 [(.r 12), (.r 14)]⟩,
    ⟨some 16, none, .ext (.r 15) 0⟩,
    ⟨some 17, none, .ext (.r 15) 1⟩,
    ⟨none, none, .st (.r 2) 2 0 21 3 (.r 16)⟩,
    ⟨some 3, none, .mov (.r 17)⟩]) 
  (.ret))),
  [.cell 2 2 21 3, .tmp 3]⟩
theorem chk68 : chkF Tryz.prog 68 ir68 = true := by kernel_rfl
/-- vernier/dyadic.checked -/
def ir69 : FnIr := ⟨⟨18, 21, 21, [(4, 18, 3)]⟩,
  .seq (.reg [⟨some 2, none, .mov (.i .i64 0)⟩]) 
  (.seq (.seq (.reg [⟨some 6, none, .mov (.r 0)⟩,
    ⟨some 7, none, .len false (.r 6)⟩,
    ⟨some 8, none, .mov (.i .i64 0)⟩]) 
  (.block 0 (.kil ⟨[4, 5, 9, 10, 11, 12, 13, 14, 15, 16, 17, 18, 19, 20], [4], [], []⟩ (.loop ⟨[4, 5, 9, 10, 11, 12, 13, 14, 15, 16, 17, 18, 19, 20], [4], [], []⟩ (.seq (.reg [⟨some 9, none, .bin false .lss (.r 8) (.r 7)⟩]) 
    (.seq (.cond (.r 9)
    (.skip)
    (.exit 0)) 
    (.seq (.block 1 (.seq (.reg [⟨some 10, none, .eat false (.r 6) (.r 8) 3⟩,
       ⟨some 11, none, .lde false (.r 10) 3 true⟩,
       ⟨some 4, none, .mk 18 [.bool false, .nil0, .int .i64 0]⟩,
       ⟨none, none, .st (.r 4) 4 0 18 3 (.r 11)⟩]) 
     (.seq (.reg [⟨some 12, none, .ld (.r 4) 4 0 18 3 true⟩,
       ⟨some 13, none, .call false false 89 [(.r 12)]⟩,
       ⟨some 5, none, .mov (.r 13)⟩]) 
     (.seq (.reg [⟨some 14, none, .mov (.r 5)⟩,
       ⟨some 15, none, .bin false .neq (.r 14) (.i .i64 0)⟩]) 
     (.cond (.r 15)
     (.seq (.reg [⟨some 16, none, .mov (.r 5)⟩,
        ⟨some 2, none, .mov (.r 16)⟩]) 
      (.ret))
     (.skip)))))) 
    (.reg [⟨some 17, none, .bin false .add (.r 8) (.i .i64 1)⟩,
      ⟨some 8, none, .mov (.r 17)⟩])))))))) 
  (.seq (.reg [⟨some 2, none, .mov (.i .i64 0)⟩]) 
  (.ret))),
  [.tmp 2]⟩
theorem chk69 : chkF Tryz.prog 69 ir69 = true := by kernel_rfl
/-- vernier/dyadic.level -/
def ir70 : FnIr := ⟨⟨44, 58, 58, [(2, 44, 3), (3, 47, 3), (4, 50, 2), (5, 52, 2), (8, 54, 2), (9, 56, 2)]⟩,
  .seq (.reg [⟨some 2, none, .box 44 3 (.r 0)⟩,
    ⟨some 3, none, .box 47 3 (.r 1)⟩,
    ⟨some 4, none, .mk 50 [.bool false, .nil0]⟩,
    ⟨some 5, none, .mk 52 [.bool false, .nil0]⟩,
    ⟨some 6, none, .mov (.i .i64 0)⟩]) 
  (.seq (.reg [⟨some 10, none, .fad (.r 2) 2⟩,
    ⟨some 11, none, .ld (.r 10) 2 2 46 1 false⟩,
    ⟨some 12, none, .fad (.r 3) 2⟩,
    ⟨some 13, none, .ld (.r 12) 3 2 49 1 false⟩,
    ⟨some 14, none, .mm false (.r 11) (.r 13)⟩,
    ⟨some 7, none, .mov (.r 14)⟩]) 
  (.seq (.reg [⟨some 15, none, .ld (.r 2) 2 0 44 3 true⟩,
    ⟨some 16, none, .call false false 91 [(.r 15)]⟩,
    ⟨some 17, none, .ld (.r 3) 3 0 47 3 true⟩,
    ⟨some 18, none, .call false false 91 [(.r 17)]⟩,
    ⟨some 8, none, .mk 54 [.bool false, .nil0]⟩,
    ⟨some 9, none, .mk 56 [.bool false, .nil0]⟩,
    ⟨none, none, .st (.r 8) 8 0 54 2 (.r 16)⟩,
    ⟨none, none, .st (.r 9) 9 0 56 2 (.r 18)⟩]) 
  (.seq (.reg [⟨some 20, none, .fad (.r 2) 1⟩,
    ⟨some 21, none, .ld (.r 20) 2 1 45 1 false⟩,
    ⟨some 22, none, .fad (.r 2) 2⟩,
    ⟨some 23, none, .ld (.r 22) 2 2 46 1 false⟩,
    ⟨some 24, none, .mov (.r 7)⟩,
    ⟨some 25, none, .bin false .sub (.r 23) (.r 24)⟩,
    ⟨some 26, none, .call false false 92 [(.r 21), (.r 25)]⟩,
    ⟨some 19, none, .mov (.r 26)⟩,
    ⟨some 27, none, .ext (.r 19) 0⟩,
    ⟨some 28, none, .ext (.r 19) 1⟩,
    ⟨some 29, none, .fad (.r 8) 1⟩,
    ⟨none, none, .st (.r 29) 8 1 55 1 (.r 27)⟩]) 
  (.seq (.reg [⟨some 31, none, .fad (.r 3) 1⟩,
    ⟨some 32, none, .ld (.r 31) 3 1 48 1 false⟩,
    ⟨some 33, none, .fad (.r 3) 2⟩,
    ⟨some 34, none, .ld (.r 33) 3 2 49 1 false⟩,
    ⟨some 35, none, .mov (.r 7)⟩,
    ⟨some 36, none, .bin false .sub (.r 34) (.r 35)⟩,
    ⟨some 37, none, .call false false 92 [(.r 32), (.r 36)]⟩,
    ⟨some 30, none, .mov (.r 37)⟩,
    ⟨some 38, none, .ext (.r 30) 0⟩,
    ⟨some 39, none, .ext (.r 30) 1⟩,
    ⟨some 40, none, .fad (.r 9) 1⟩,
    ⟨none, none, .st (.r 40) 9 1 57 1 (.r 38)⟩]) 
  (.seq (.reg [⟨some 41, none, .ld (.r 8) 8 0 54 2 true⟩,
    ⟨some 42, none, .ld (.r 9) 9 0 56 2 true⟩,
    ⟨some 43, none, .mov (.r 7)⟩,
    ⟨none, none, .st (.r 4) 4 0 50 2 (.r 41)⟩,
    ⟨none, none, .st (.r 5) 5 0 52 2 (.r 42)⟩,
    ⟨some 6, none, .mov (.r 43)⟩]) 
  (.ret)))))),
  [.cell 4 4 50 2, .cell 5 5 52 2, .tmp 6]⟩
theorem chk70 : chkF Tryz.prog 70 ir70 = true := by kernel_rfl
/-- vernier/whole.Cmp -/
def ir71 : FnIr := ⟨⟨9, 13, 13, [(2, 9, 2), (3, 11, 2)]⟩,
  .seq (.reg [⟨some 2, none, .box 9 2 (.r 0)⟩,
    ⟨some 3, none, .box 11 2 (.r 1)⟩,
    ⟨some 4, none, .mov (.i .i64 0)⟩]) 
  (.seq (.reg [⟨some 5, none, .ld (.r 2) 2 0 9 2 true⟩,
    ⟨some 6, none, .ld (.r 3) 3 0 11 2 true⟩,
    ⟨some 7, none, .call false false 94 [(.r 5), (.r 6)]⟩,
    ⟨some 8, none, .call false false 93 [(.r 7)]⟩,
    ⟨some 4, none, .mov (.r 8)⟩]) 
  (.ret)),
  [.tmp 4]⟩
theorem chk71 : chkF Tryz.prog 71 ir71 = true := by kernel_rfl
/-- vernier/bound.dot -/
def ir73 : FnIr := ⟨⟨16, 28, 28, [(2, 16, 6), (3, 22, 6)]⟩,
  .seq (.reg [⟨some 2, none, .mk 16 [.bool false, .nil0, .int .i64 0, .bool false, .nil0, .int .i64 0]⟩]) 
  (.seq (.reg [⟨some 5, none, .call false false 59 []⟩,
    ⟨some 3, none, .mk 22 [.bool false, .nil0, .int .i64 0, .bool false, .nil0, .int .i64 0]⟩,
    ⟨none, none, .st (.r 3) 3 0 22 6 (.r 5)⟩]) 
  (.seq (.seq (.reg [⟨some 4, none, .mov (.i .i64 1)⟩]) 
  (.block 0 (.kil ⟨[6, 7, 8, 9, 10, 11, 12, 13], [], [], []⟩ (.loop ⟨[6, 7, 8, 9, 10, 11, 12, 13], [], [], []⟩ (.seq (.seq (.reg [⟨some 6, none, .mov (.r 4)⟩,
      ⟨some 7, none, .mov (.r 0)⟩,
      ⟨some 8, none, .bin false .lss (.r 6) (.r 7)⟩]) 
    (.cond (.r 8)
    (.skip)
    (.exit 0))) 
    (.seq (.block 1 (.reg [⟨some 11, none, .ld (.r 3) 3 0 22 6 true⟩,
       ⟨some 12, none, .mov (.r 4)⟩,
       ⟨some 13, none, .call false false 75 [(.r 11), (.r 12)]⟩,
       ⟨none, none, .st (.r 3) 3 0 22 6 (.r 13)⟩])) 
    (.reg [⟨some 9, none, .mov (.r 4)⟩,
      ⟨some 10, none, .bin false .add (.r 9) (.i .i64 1)⟩,
      ⟨some 4, none, .mov (.r 10)⟩]))))))) 
  (.seq (.reg [⟨some 14, none, .ld (.r 3) 3 0 22 6 true⟩,
    ⟨some 15, none, .call false false 62 [(.r 14)]⟩,
    ⟨none, none, .st (.r 2) 2 0 16 6 (.r 15)⟩]) 
  (.ret)))),
  [.cell 2 2 16 6]⟩
theorem chk73 : chkF Tryz.prog 73 ir73 = true := by kernel_rfl
/-- (vernier/bound.maker).seven -/
def ir74 : FnIr := ⟨⟨72, 172, 172, [(1, 72, 7), (2, 79, 6), (3, 85, 6), (4, 91, 6), (5, 97, 6), (6, 103, 6), (7, 109, 9), (8, 118, 9), (9, 127, 9), (10, 136, 9), (11, 145, 9), (12, 154, 9), (13, 163, 9)]⟩,
  .seq (.reg [⟨some 1, none, .box 72 7 (.r 0)⟩,
    ⟨some 2, none, .mk 79 [.bool false, .nil0, .int .i64 0, .bool false, .nil0, .int .i64 0]⟩]) 
  (.seq (.reg [⟨some 14, none, .call false false 58 [(.i .i64 1), (.i .i64 0)]⟩,
    ⟨some 15, none, .call false false 58 [(.i .i64 0), (.i .i64 0)]⟩,
    ⟨some 16, none, .bld [(0, 3, (.r 14)), (3, 3, (.r 15))] [.bool false, .nil0, .int .i64 0, .bool false, .nil0, .int .i64 0]⟩,
    ⟨some 3, none, .mk 85 [.bool false, .nil0, .int .i64 0, .bool false, .nil0, .int .i64 0]⟩,
    ⟨none, none, .st (.r 3) 3 0 85 6 (.r 16)⟩]) 
  (.seq (.reg [⟨some 17, none, .ld (.r 3) 3 0 85 6 true⟩,
    ⟨some 18, none, .ld (.r 3) 3 0 85 6 true⟩,
    ⟨some 19, none, .call false false 95 [(.r 17), (.r 18)]⟩,
    ⟨some 4, none, .mk 91 [.bool false, .nil0, .int .i64 0, .bool false, .nil0, .int .i64 0]⟩,
    ⟨none, none, .st (.r 4) 4 0 91 6 (.r 19)⟩]) 
  (.seq (.reg [⟨some 20, none, .ld (.r 4) 4 0 91 6 true⟩,
    ⟨some 21, none, .ld (.r 3) 3 0 85 6 true⟩,
    ⟨some 22, none, .call false false 95 [(.r 20), (.r 21)]⟩,
    ⟨some 5, none, .mk 97 [.bool false, .nil0, .int .i64 0, .bool false, .nil0, .int .i64 0]⟩,
    ⟨none, none, .st (.r 5) 5 0 97 6 (.r 22)⟩]) 
  (.seq (.reg [⟨some 23, none, .ld (.r 3) 3 0 85 6 true⟩,
    ⟨some 24, none, .ld (.r 5) 5 0 97 6 true⟩,
    ⟨some 25, none, .call false false 95 [(.r 23), (.r 24)]⟩,
    ⟨some 6, none, .mk 103 [.bool false, .nil0, .int .i64 0, .bool false, .nil0, .int .i64 0]⟩,
    ⟨none, none, .st (.r 6) 6 0 103 6 (.r 25)⟩]) 
  (.seq (.reg [⟨some 26, none, .ld (.r 1) 1 0 72 7 true⟩,
    ⟨some 27, none, .ld (.r 3) 3 0 85 6 true⟩,
    ⟨some 28, none, .ld (.r 3) 3 0 85 6 true⟩,
    ⟨some 29, none, .call false false 96 [(.r 26), (.r 27), (.r 28)]⟩,
    ⟨some 30, none, .ld (.r 1) 1 0 72 7 true⟩,
    ⟨some 31, none, .ld (.r 6) 6 0 103 6 true⟩,
    ⟨some 32, none, .ld (.r 3) 3 0 85 6 true⟩,
    ⟨some 33, none, .call false false 96 [(.r 30), (.r 31), (.r 32)]⟩,
    ⟨some 34, none, .ld (.r 1) 1 0 72 7 true⟩,
    ⟨some 35, none, .ld (.r 4) 4 0 91 6 true⟩,
    ⟨some 36, none, .ld (.r 4) 4 0 91 6 true⟩,
    ⟨some 37, none, .call false false 96 [(.r 34), (.r 35), (.r 36)]⟩,
    ⟨some 7, none, .mk 109 [.bool false, .nil0, .int .i64 0, .bool false, .nil0, .int .i64 0, .bool false, .nil0, .int .i64 0]⟩,
    ⟨some 8, none, .mk 118 [.bool false, .nil0, .int .i64 0, .bool false, .nil0, .int .i64 0, .bool false, .nil0, .int .i64 0]⟩,
    ⟨some 9, none, .mk 127 [.bool false, .nil0, .int .i64 0, .bool false, .nil0, .int .i64 0, .bool false, .nil0, .int .i64 0]⟩,
    ⟨none, none, .st (.r 7) 7 0 109 9 (.r 29)⟩,
    ⟨none, none, .st (.r 8) 8 0 118 9 (.r 33)⟩,
    ⟨none, none, .st (.r 9) 9 0 127 9 (.r 37)⟩]) 
  (.seq (.reg [⟨some 38, none, .ld (.r 1) 1 0 72 7 true⟩,
    ⟨some 39, none, .ld (.r 5) 5 0 97 6 true⟩,
    ⟨some 40, none, .ld (.r 5) 5 0 97 6 true⟩,
    ⟨some 41, none, .call false false 96 [(.r 38), (.r 39), (.r 40)]⟩,
    ⟨some 10, none, .mk 136 [.bool false, .nil0, .int .i64 0, .bool false, .nil0, .int .i64 0, .bool false, .nil0, .int .i64 0]⟩,
    ⟨none, none, .st (.r 10) 10 0 136 9 (.r 41)⟩]) 
  (.seq (.reg [⟨some 42, none, .ld (.r 7) 7 0 109 9 true⟩,
    ⟨some 43, none, .ld (.r 10) 10 0 136 9 true⟩,
    ⟨some 44, none, .call false false 97 [(.r 42), (.r 43)]⟩,
    ⟨some 11, none, .mk 145 [.bool false, .nil0, .int .i64 0, .bool false, .nil0, .int .i64 0, .bool false, .nil0, .int .i64 0]⟩,
    ⟨none, none, .st (.r 11) 11 0 145 9 (.r 44)⟩]) 
  (.seq (.reg [⟨some 45, none, .ld (.r 11) 11 0 145 9 true⟩,
    ⟨some 46, none, .ld (.r 9) 9 0 127 9 true⟩,
    ⟨some 47, none, .call false false 97 [(.r 45), (.r 46)]⟩,
    ⟨some 48, none, .ld (.r 11) 11 0 145 9 true⟩,
    ⟨some 49, none, .ld (.r 9) 9 0 127 9 true⟩,
    ⟨some 50, none, .call false false 97 [(.r 48), (.r 49)]⟩,
    ⟨some 12, none, .mk 154 [.bool false, .nil0, .int .i64 0, .bool false, .nil0, .int .i64 0, .bool false, .nil0, .int .i64 0]⟩,
    ⟨some 13, none, .mk 163 [.bool false, .nil0, .int .i64 0, .bool false, .nil0, .int .i64 0, .bool false, .nil0, .int .i64 0]⟩,
    ⟨none, none, .st (.r 12) 12 0 154 9 (.r 47)⟩,
    ⟨none, none, .st (.r 13) 13 0 163 9 (.r 50)⟩]) 
  (.seq (.reg [⟨some 51, none, .ld (.r 7) 7 0 109 9 true⟩,
    ⟨some 52, none, .ld (.r 7) 7 0 109 9 true⟩,
    ⟨some 53, none, .call false false 97 [(.r 51), (.r 52)]⟩,
    ⟨some 54, none, .fld (.r 53) 3 6 true⟩,
    ⟨some 55, none, .ld (.r 13) 13 0 163 9 true⟩,
    ⟨some 56, none, .ld (.r 8) 8 0 118 9 true⟩,
    ⟨some 57, none, .call false false 97 [(.r 55), (.r 56)]⟩,
    ⟨some 58, none, .fld (.r 57) 3 6 true⟩,
    ⟨some 59, none, .ld (.r 12) 12 0 154 9 true⟩,
    ⟨some 60, none, .ld (.r 1) 1 0 72 7 true⟩,
    ⟨some 61, none, .ld (.r 3) 3 0 85 6 true⟩,
    ⟨some 62, none, .ld (.r 6) 6 0 103 6 true⟩,
    ⟨some 63, none, .call false false 96 [(.r 60), (.r 61), (.r 62)]⟩,
    ⟨some 64, none, .call false false 97 [(.r 59), (.r 63)]⟩,
    ⟨some 65, none, .fld (.r 64) 3 6 true⟩,
    ⟨some 66, none, .ld (.r 12) 12 0 154 9 true⟩,
    ⟨some 67, none, .ld (.r 9) 9 0 127 9 true⟩,
    ⟨some 68, none, .call false false 97 [(.r 66), (.r 67)]⟩,
    ⟨some 69, none, .fld (.r 68) 3 6 true⟩,
    ⟨some 70, none, .bsl 3 6 true [(0, 6, (.r 58)), (6, 6, (.r 65)), (12, 6, (.r 69))] [.bool false, .nil0, .int .i64 0, .bool false, .nil0, .int .i64 0]⟩,
    ⟨some 71, none, .call false false 60 [(.r 54), (.r 70)]⟩,
    ⟨none, none, .st (.r 2) 2 0 79 6 (.r 71)⟩]) 
  (.ret)))))))))),
  [.cell 2 2 79 6]⟩
theorem chk74 : chkF Tryz.prog 74 ir74 = true := by kernel_rfl
/-- (vernier/bound.pair).more -/
def ir75 : FnIr := ⟨⟨35, 53, 53, [(2, 35, 6), (4, 41, 6), (5, 47, 6)]⟩,
  .seq (.reg [⟨some 2, none, .box 35 6 (.r 0)⟩,
    ⟨some 4, none, .mk 41 [.bool false, .nil0, .int .i64 0, .bool false, .nil0, .int .i64 0]⟩]) 
  (.seq (.reg [⟨some 6, none, .call false false 59 []⟩,
    ⟨some 5, none, .mk 47 [.bool false, .nil0, .int .i64 0, .bool false, .nil0, .int .i64 0]⟩,
    ⟨none, none, .st (.r 5) 5 0 47 6 (.r 6)⟩]) 
  (.seq (.reg [⟨some 7, none, .fad (.r 2) 0⟩,
    ⟨some 8, none, .ld (.r 7) 2 0 35 3 true⟩,
    ⟨some 9, none, .fad (.r 5) 0⟩,
    ⟨some 10, none, .ld (.r 9) 5 0 47 3 true⟩,
    ⟨some 11, none, .mov (.r 1)⟩,
    ⟨some 12, none, .call false false 58 [(.r 11), (.i .i64 0)]⟩,
    ⟨some 13, none, .fad (.r 2) 0⟩,
    ⟨some 14, none, .ld (.r 13) 2 0 35 3 true⟩,
    ⟨some 15, none, .call false false 58 [(.i .i64 1), (.i .i64 0)]⟩,
    ⟨some 16, none, .fad (.r 5) 0⟩,
    ⟨some 17, none, .ld (.r 16) 5 0 47 3 true⟩,
    ⟨some 18, none, .bsl 3 3 true [(0, 3, (.r 14)), (3, 3, (.r 15)), (6, 3, (.r 17))] [.bool false, .nil0, .int .i64 0]⟩,
    ⟨some 19, none, .call false false 87 [(.r 12), (.r 18)]⟩,
    ⟨some 20, none, .bsl 2 3 true [(0, 3, (.r 10)), (3, 3, (.r 19))] [.bool false, .nil0, .int .i64 0]⟩,
    ⟨some 21, none, .call false false 66 [(.r 8), (.r 20)]⟩,
    ⟨some 22, none, .fad (.r 2) 3⟩,
    ⟨some 23, none, .ld (.r 22) 2 3 38 3 true⟩,
    ⟨some 24, none, .fad (.r 5) 3⟩,
    ⟨some 25, none, .ld (.r 24) 5 3 50 3 true⟩,
    ⟨some 26, none, .fad (.r 2) 3⟩,
    ⟨some 27, none, .ld (.r 26) 2 3 38 3 true⟩,
    ⟨some 28, none, .fad (.r 5) 3⟩,
    ⟨some 29, none, .ld (.r 28) 5 3 50 3 true⟩,
    ⟨some 30, none, .bsl 1 3 true [(0, 3, (.r 29))] [.bool false, .nil0, .int .i64 0]⟩,
    ⟨some 31, none, .call false false 87 [(.r 27), (.r 30)]⟩,
    ⟨some 32, none, .bsl 2 3 true [(0, 3, (.r 25)), (3, 3, (.r 31))] [.bool false, .nil0, .int .i64 0]⟩,
    ⟨some 33, none, .call false false 66 [(.r 23), (.r 32)]⟩,
    ⟨some 34, none, .bld [(0, 3, (.r 21)), (3, 3, (.r 33))] [.bool false, .nil0, .int .i64 0, .bool false, .nil0, .int .i64 0]⟩,
    ⟨none, none, .st (.r 4) 4 0 41 6 (.r 34)⟩]) 
  (.ret))),
  [.cell 4 4 41 6]⟩
theorem chk75 : chkF Tryz.prog 75 ir75 = true := by kernel_rfl
/-- vernier/mat.within -/
def ir79 : FnIr := ⟨⟨25, 25, 25, []⟩,
  .seq (.reg [⟨some 6, none, .mov (.b false)⟩]) 
  (.seq (.reg [⟨some 7, none, .mov (.r 0)⟩,
    ⟨some 8, none, .bin false .geq (.r 7) (.i .i64 0)⟩,
    ⟨some 9, none, .mov (.r 8)⟩,
    ⟨some 10, some (9, true), .mov (.r 1)⟩,
    ⟨some 11, some (9, true), .bin false .geq (.r 10) (.i .i64 1)⟩,
    ⟨some 12, none, .pick (.r 9) (.r 11) (.b false)⟩,
    ⟨some 13, none, .mov (.r 12)⟩,
    ⟨some 14, some (13, true), .mov (.r 0)⟩,
    ⟨some 15, some (13, true), .mov (.r 2)⟩,
    ⟨some 16, some (13, true), .bin false .leq (.r 14) (.r 15)⟩,
    ⟨some 17, none, .pick (.r 13) (.r 16) (.b false)⟩,
    ⟨some 18, none, .mov (.r 17)⟩,
    ⟨some 19, some (18, true), .mov (.r 1)⟩,
    ⟨some 20, some (18, true), .mov (.r 2)⟩,
    ⟨some 21, some (18, true), .mov (.r 0)⟩,
    ⟨some 22, some (18, true), .bin false .sub (.r 20) (.r 21)⟩,
    ⟨some 23, some (18, true), .bin false .leq (.r 19) (.r 22)⟩,
    ⟨some 24, none, .pick (.r 18) (.r 23) (.b false)⟩,
    ⟨some 6, none, .mov (.r 24)⟩]) 
  (.ret)),
  [.tmp 6]⟩
theorem chk79 : chkF Tryz.prog 79 ir79 = true := by kernel_rfl
/-- vernier/mat.row -/
def ir80 : FnIr := ⟨⟨17, 20, 20, [(2, 17, 3)]⟩,
  .seq (.reg [⟨some 2, none, .box 17 3 (.r 0)⟩,
    ⟨some 4, none, .mov .nil⟩]) 
  (.seq (.reg [⟨some 5, none, .fad (.r 2) 2⟩,
    ⟨some 6, none, .ld (.r 5) 2 2 19 1 false⟩,
    ⟨some 7, none, .mov (.r 1)⟩,
    ⟨some 8, none, .fad (.r 2) 1⟩,
    ⟨some 9, none, .ld (.r 8) 2 1 18 1 false⟩,
    ⟨some 10, none, .bin false .mul (.r 7) (.r 9)⟩,
    ⟨some 11, none, .mov (.r 1)⟩,
    ⟨some 12, none, .bin false .add (.r 11) (.i .i64 1)⟩,
    ⟨some 13, none, .fad (.r 2) 1⟩,
    ⟨some 14, none, .ld (.r 13) 2 1 18 1 false⟩,
    ⟨some 15, none, .bin false .mul (.r 12) (.r 14)⟩,
    ⟨some 16, none, .slc 1 (.r 6) (some (.r 10)) (some (.r 15))⟩,
    ⟨some 4, none, .mov (.r 16)⟩]) 
  (.ret)),
  [.tmp 4]⟩
theorem chk80 : chkF Tryz.prog 80 ir80 = true := by kernel_rfl
/-- vernier/parts.Split -/
def ir81 : FnIr := ⟨⟨30, 30, 30, []⟩,
  .seq (.reg [⟨some 2, none, .mov (.b false)⟩,
    ⟨some 3, none, .mov (.i .u64 0)⟩,
    ⟨some 4, none, .mov (.i .i64 0)⟩,
    ⟨some 5, none, .mov (.i .i64 0)⟩]) 
  (.seq (.reg [⟨some 8, none, .mov (.r 0)⟩,
    ⟨some 9, none, .bin false .shr (.r 8) (.i .u64 52)⟩,
    ⟨some 10, none, .bin false .and (.r 9) (.i .u64 2047)⟩,
    ⟨some 11, none, .conv .i64 (.r 10)⟩,
    ⟨some 12, none, .mov (.r 0)⟩,
    ⟨some 13, none, .bin false .and (.r 12) (.i .u64 4503599627370495)⟩,
    ⟨some 6, none, .mov (.r 11)⟩,
    ⟨some 7, none, .mov (.r 13)⟩]) 
  (.seq (.seq (.reg [⟨some 14, none, .mov (.r 6)⟩]) 
  (.block 0 (.seq (.reg [⟨some 16, none, .bin false .eql (.r 14) (.i .i64 2047)⟩,
     ⟨some 15, none, .mov (.r 16)⟩]) 
   (.cond (.r 15)
   (.seq (.reg [⟨some 2, none, .mov (.b false)⟩,
      ⟨some 3, none, .mov (.i .u64 0)⟩,
      ⟨some 4, none, .mov (.i .i64 0)⟩,
      ⟨some 5, none, .mov (.i .i64 23)⟩]) 
    (.ret))
   (.seq (.reg [⟨some 18, none, .bin false .eql (.r 14) (.i .i64 0)⟩,
      ⟨some 17, none, .mov (.r 18)⟩]) 
    (.cond (.r 17)
    (.seq (.reg [⟨some 19, none, .mov (.r 0)⟩,
       ⟨some 20, none, .bin false .and (.r 19) (.i .u64 9223372036854775808)⟩,
       ⟨some 21, none, .bin false .neq (.r 20) (.i .u64 0)⟩,
       ⟨some 22, none, .mov (.r 7)⟩,
       ⟨some 2, none, .mov (.r 21)⟩,
       ⟨some 3, none, .mov (.r 22)⟩,
       ⟨some 4, none, .mov (.i .i64 (-1074))⟩,
       ⟨some 5, none, .mov (.i .i64 0)⟩]) 
     (.ret))
    (.skip))))))) 
  (.seq (.reg [⟨some 23, none, .mov (.r 0)⟩,
    ⟨some 24, none, .bin false .and (.r 23) (.i .u64 9223372036854775808)⟩,
    ⟨some 25, none, .bin false .neq (.r 24) (.i .u64 0)⟩,
    ⟨some 26, none, .mov (.r 7)⟩,
    ⟨some 27, none, .bin false .or (.r 26) (.i .u64 4503599627370496)⟩,
    ⟨some 28, none, .mov (.r 6)⟩,
    ⟨some 29, none, .bin false .sub (.r 28) (.i .i64 1075)⟩,
    ⟨some 2, none, .mov (.r 25)⟩,
    ⟨some 3, none, .mov (.r 27)⟩,
    ⟨some 4, none, .mov (.r 29)⟩,
    ⟨some 5, none, .mov (.i .i64 0)⟩]) 
  (.ret)))),
  [.tmp 2, .tmp 3, .tmp 4, .tmp 5]⟩
theorem chk81 : chkF Tryz.prog 81 ir81 = true := by kernel_rfl
/-- vernier/dyadic.Sub -/
def ir82 : FnIr := ⟨⟨15, 24, 24, [(2, 15, 3), (3, 18, 3), (4, 21, 3)]⟩,
  .seq (.reg [⟨some 2, none, .box 15 3 (.r 0)⟩,
    ⟨some 3, none, .box 18 3 (.r 1)⟩,
    ⟨some 4, none, .mk 21 [.bool false, .nil0, .int .i64 0]⟩,
    ⟨some 5, none, .mov (.i .i64 0)⟩]) 
  (.seq (.reg [⟨some 6, none, .fad (.r 3) 0⟩,
    ⟨some 7, none, .ld (.r 6) 3 0 18 1 false⟩,
    ⟨some 8, none, .un .not (.r 7)⟩,
    ⟨some 9, none, .fad (.r 3) 0⟩,
    ⟨none, none, .st (.r 9) 3 0 18 1 (.r 8)⟩]) 
  (.seq (.reg [⟨some 10, none, .ld (.r 2) 2 0 15 3 true⟩,
    ⟨some 11, none, .ld (.r 3) 3 0 18 3 true⟩,
    ⟨some 12, none, .call false false 83 [(.r 10), (.r 11)]⟩,
    ⟨some 13, none, .ext (.r 12) 0⟩,
    ⟨some 14, none, .ext (.r 12) 1⟩,
    ⟨none, none, .st (.r 4) 4 0 21 3 (.r 13)⟩,
    ⟨some 5, none, .mov (.r 14)⟩]) 
  (.ret))),
  [.cell 4 4 21 3, .tmp 5]⟩
theorem chk82 : chkF Tryz.prog 82 ir82 = true := by kernel_rfl
/-- vernier/dyadic.Add -/
def ir83 : FnIr := ⟨⟨32, 45, 45, [(2, 32, 3), (3, 35, 3), (4, 38, 3), (7, 41, 2), (8, 43, 2)]⟩,
  .seq (.reg [⟨some 2, none, .box 32 3 (.r 0)⟩,
    ⟨some 3, none, .box 35 3 (.r 1)⟩,
    ⟨some 4, none, .mk 38 [.bool false, .nil0, .int .i64 0]⟩,
    ⟨some 5, none, .mov (.i .i64 0)⟩]) 
  (.seq (.seq (.reg [⟨some 10, none, .ld (.r 2) 2 0 32 3 true⟩,
    ⟨some 11, none, .ld (.r 3) 3 0 35 3 true⟩,
    ⟨some 12, none, .bsl 2 3 true [(0, 3, (.r 10)), (3, 3, (.r 11))] [.bool false, .nil0, .int .i64 0]⟩,
    ⟨some 13, none, .call false false 69 [(.r 12)]⟩,
    ⟨some 6, none, .mov (.r 13)⟩]) 
  (.seq (.reg [⟨some 14, none, .mov (.r 6)⟩,
    ⟨some 15, none, .bin false .neq (.r 14) (.i .i64 0)⟩]) 
  (.cond (.r 15)
  (.seq (.reg [⟨some 16, none, .bld [] [.bool false, .nil0, .int .i64 0]⟩,
     ⟨some 17, none, .mov (.r 6)⟩,
     ⟨none, none, .st (.r 4) 4 0 38 3 (.r 16)⟩,
     ⟨some 5, none, .mov (.r 17)⟩]) 
   (.ret))
  (.skip)))) 
  (.seq (.reg [⟨some 19, none, .ld (.r 2) 2 0 32 3 true⟩,
    ⟨some 20, none, .ld (.r 3) 3 0 35 3 true⟩,
    ⟨some 21, none, .call false false 70 [(.r 19), (.r 20)]⟩,
    ⟨some 18, none, .mov (.r 21)⟩,
    ⟨some 22, none, .ext (.r 18) 0⟩,
    ⟨some 23, none, .ext (.r 18) 1⟩,
    ⟨some 24, none, .ext (.r 18) 2⟩,
    ⟨some 7, none, .mk 41 [.bool false, .nil0]⟩,
    ⟨some 8, none, .mk 43 [.bool false, .nil0]⟩,
    ⟨none, none, .st (.r 7) 7 0 41 2 (.r 22)⟩,
    ⟨none, none, .st (.r 8) 8 0 43 2 (.r 23)⟩,
    ⟨some 9, none, .mov (.r 24)⟩]) 
  (.seq (.reg [⟨some 25, none, .ld (.r 7) 7 0 41 2 true⟩,
    ⟨some 26, none, .ld (.r 8) 8 0 43 2 true⟩,
    ⟨some 27, none, .call false false 101 [(.r 25), (.r 26)]⟩,
    ⟨some 28, none, .mov (.r 9)⟩,
    ⟨some 29, none, .call false false 90 [(.r 27), (.r 28)]⟩,
    ⟨some 30, none, .ext (.r 29) 0⟩,
    ⟨some 31, none, .ext (.r 29) 1⟩,
    ⟨none, none, .st (.r 4) 4 0 38 3 (.r 30)⟩,
    ⟨some 5, none, .mov (.r 31)⟩]) 
  (.ret)))),
  [.cell 4 4 38 3, .tmp 5]⟩
theorem chk83 : chkF Tryz.prog 83 ir83 = true := by kernel_rfl
/-- vernier/dyadic.Mul -/
def ir84 : FnIr := ⟨⟨28, 37, 37, [(2, 28, 3), (3, 31, 3), (4, 34, 3)]⟩,
  .seq (.reg [⟨some 2, none, .box 28 3 (.r 0)⟩,
    ⟨some 3, none, .box 31 3 (.r 1)⟩,
    ⟨some 4, none, .mk 34 [.bool false, .nil0, .int .i64 0]⟩,
    ⟨some 5, none, .mov (.i .i64 0)⟩]) 
  (.seq (.seq (.reg [⟨some 7, none, .ld (.r 2) 2 0 28 3 true⟩,
    ⟨some 8, none, .ld (.r 3) 3 0 31 3 true⟩,
    ⟨some 9, none, .bsl 2 3 true [(0, 3, (.r 7)), (3, 3, (.r 8))] [.bool false, .nil0, .int .i64 0]⟩,
    ⟨some 10, none, .call false false 69 [(.r 9)]⟩,
    ⟨some 6, none, .mov (.r 10)⟩]) 
  (.seq (.reg [⟨some 11, none, .mov (.r 6)⟩,
    ⟨some 12, none, .bin false .neq (.r 11) (.i .i64 0)⟩]) 
  (.cond (.r 12)
  (.seq (.reg [⟨some 13, none, .bld [] [.bool false, .nil0, .int .i64 0]⟩,
     ⟨some 14, none, .mov (.r 6)⟩,
     ⟨none, none, .st (.r 4) 4 0 34 3 (.r 13)⟩,
     ⟨some 5, none, .mov (.r 14)⟩]) 
   (.ret))
  (.skip)))) 
  (.seq (.reg [⟨some 15, none, .ld (.r 2) 2 0 28 3 true⟩,
    ⟨some 16, none, .call false false 91 [(.r 15)]⟩,
    ⟨some 17, none, .ld (.r 3) 3 0 31 3 true⟩,
    ⟨some 18, none, .call false false 91 [(.r 17)]⟩,
    ⟨some 19, none, .call false false 102 [(.r 16), (.r 18)]⟩,
    ⟨some 20, none, .fad (.r 2) 2⟩,
    ⟨some 21, none, .ld (.r 20) 2 2 30 1 false⟩,
    ⟨some 22, none, .fad (.r 3) 2⟩,
    ⟨some 23, none, .ld (.r 22) 3 2 33 1 false⟩,
    ⟨some 24, none, .bin false .add (.r 21) (.r 23)⟩,
    ⟨some 25, none, .call false false 90 [(.r 19), (.r 24)]⟩,
    ⟨some 26, none, .ext (.r 25) 0⟩,
    ⟨some 27, none, .ext (.r 25) 1⟩,
    ⟨none, none, .st (.r 4) 4 0 34 3 (.r 26)⟩,
    ⟨some 5, none, .mov (.r 27)⟩]) 
  (.ret))),
  [.cell 4 4 34 3, .tmp 5]⟩
theorem chk84 : chkF Tryz.prog 84 ir84 = true := by kernel_rfl
/-- vernier/dyadic.Of -/
def ir85 : FnIr := ⟨⟨19, 22, 22, [(4, 19, 3)]⟩,
  .seq (.reg [⟨some 4, none, .mk 19 [.bool false, .nil0, .int .i64 0]⟩,
    ⟨some 5, none, .mov (.i .i64 0)⟩]) 
  (.seq (.seq (.reg [⟨some 6, none, .mov (.r 1)⟩,
    ⟨some 7, none, .bin false .lss (.r 6) (.i .i64 (-16384))⟩,
    ⟨some 8, none, .mov (.r 7)⟩,
    ⟨some 9, some (8, false), .mov (.r 1)⟩,
    ⟨some 10, some (8, false), .bin false .gtr (.r 9) (.i .i64 16384)⟩,
    ⟨some 11, none, .pick (.r 8) (.b true) (.r 10)⟩]) 
  (.cond (.r 11)
  (.seq (.reg [⟨some 12, none, .bld [] [.bool false, .nil0, .int .i64 0]⟩,
     ⟨none, none, .st (.r 4) 4 0 19 3 (.r 12)⟩,
     ⟨some 5, none, .mov (.i .i64 4)⟩]) 
   (.ret))
  (.skip))) 
  (.seq (.reg [⟨some 13, none, .mov (.r 0)⟩,
    ⟨some 14, none, .call false false 103 [(.r 13)]⟩,
    ⟨some 15, none, .mov (.r 1)⟩,
    ⟨some 16, none, .call false false 90 [(.r 14), (.r 15)]⟩,
    ⟨some 17, none, .ext (.r 16) 0⟩,
    ⟨some 18, none, .ext (.r 16) 1⟩,
    ⟨none, none, .st (.r 4) 4 0 19 3 (.r 17)⟩,
    ⟨some 5, none, .mov (.r 18)⟩]) 
  (.ret))),
  [.cell 4 4 19 3, .tmp 5]⟩
theorem chk85 : chkF Tryz.prog 85 ir85 = true := by kernel_rfl
/-- (vernier/bound.num).most -/
def ir86 : FnIr := ⟨⟨28, 37, 37, [(2, 28, 3), (4, 31, 3), (6, 34, 3)]⟩,
  .seq (.reg [⟨some 2, none, .box 28 3 (.r 0)⟩,
    ⟨some 4, none, .mk 31 [.bool false, .nil0, .int .i64 0]⟩]) 
  (.seq (.seq (.reg [⟨some 9, none, .mov (.r 1)⟩,
    ⟨some 10, none, .len false (.r 9)⟩,
    ⟨some 11, none, .mov (.i .i64 0)⟩]) 
  (.block 0 (.kil ⟨[6, 7, 8, 12, 13, 14, 15, 16, 17, 18, 19, 20, 21, 22, 23, 24, 25, 26, 34, 35, 36], [6], [], []⟩ (.loop ⟨[6, 7, 8, 12, 13, 14, 15, 16, 17, 18, 19, 20, 21, 22, 23, 24, 25, 26, 34, 35, 36], [6], [], []⟩ (.seq (.reg [⟨some 12, none, .bin false .lss (.r 11) (.r 10)⟩]) 
    (.seq (.cond (.r 12)
    (.skip)
    (.exit 0)) 
    (.seq (.block 1 (.seq (.reg [⟨some 13, none, .eat false (.r 9) (.r 11) 3⟩,
       ⟨some 14, none, .lde false (.r 13) 3 true⟩,
       ⟨some 6, none, .mk 34 [.bool false, .nil0, .int .i64 0]⟩,
       ⟨none, none, .st (.r 6) 6 0 34 3 (.r 14)⟩]) 
     (.seq (.reg [⟨some 16, none, .fad (.r 2) 0⟩,
       ⟨some 17, none, .ld (.r 16) 2 0 28 3 true⟩,
       ⟨some 18, none, .fad (.r 6) 0⟩,
       ⟨some 19, none, .ld (.r 18) 6 0 34 3 true⟩,
       ⟨some 20, none, .call false false 41 [(.r 17), (.r 19)]⟩,
       ⟨some 15, none, .mov (.r 20)⟩,
       ⟨some 21, none, .ext (.r 15) 0⟩,
       ⟨some 22, none, .ext (.r 15) 1⟩,
       ⟨some 7, none, .mov (.r 21)⟩,
       ⟨some 8, none, .mov (.r 22)⟩]) 
     (.seq (.reg [⟨some 23, none, .mov (.r 7)⟩,
       ⟨some 24, none, .bin false .lss (.r 23) (.i .i64 0)⟩]) 
     (.cond (.r 24)
     (.reg [⟨some 25, none, .ld (.r 6) 6 0 34 3 true⟩,
        ⟨none, none, .st (.r 2) 2 0 28 3 (.r 25)⟩])
     (.skip)))))) 
    (.reg [⟨some 26, none, .bin false .add (.r 11) (.i .i64 1)⟩,
      ⟨some 11, none, .mov (.r 26)⟩])))))))) 
  (.seq (.reg [⟨some 27, none, .ld (.r 2) 2 0 28 3 true⟩,
    ⟨none, none, .st (.r 4) 4 0 31 3 (.r 27)⟩]) 
  (.ret))),
  [.cell 4 4 31 3]⟩
theorem chk86 : chkF Tryz.prog 86 ir86 = true := by kernel_rfl
/-- vernier/bound.off -/
def ir87 : FnIr := ⟨⟨11, 17, 17, [(2, 11, 3), (4, 14, 3)]⟩,
  .seq (.reg [⟨some 2, none, .box 11 3 (.r 0)⟩,
    ⟨some 4, none, .mk 14 [.bool false, .nil0, .int .i64 0]⟩]) 
  (.seq (.reg [⟨some 5, none, .ld (.r 2) 2 0 11 3 true⟩,
    ⟨some 6, none, .mov (.r 1)⟩,
    ⟨some 7, none, .call false false 66 [(.r 5), (.r 6)]⟩,
    ⟨some 8, none, .call false false 58 [(.i .i64 1), (.i .i64 (-53))]⟩,
    ⟨some 9, none, .bsl 1 3 true [(0, 3, (.r 8))] [.bool false, .nil0, .int .i64 0]⟩,
    ⟨some 10, none, .call false false 65 [(.r 7), (.r 9)]⟩,
    ⟨none, none, .st (.r 4) 4 0 14 3 (.r 10)⟩]) 
  (.ret)),
  [.cell 4 4 14 3]⟩
theorem chk87 : chkF Tryz.prog 87 ir87 = true := by kernel_rfl
/-- vernier/dyadic.Above -/
def ir88 : FnIr := ⟨⟨67, 73, 73, [(2, 67, 3), (4, 70, 3)]⟩,
  .seq (.reg [⟨some 2, none, .box 67 3 (.r 0)⟩,
    ⟨some 4, none, .mk 70 [.bool false, .nil0, .int .i64 0]⟩,
    ⟨some 5, none, .mov (.i .i64 0)⟩]) 
  (.seq (.seq (.reg [⟨some 12, none, .ld (.r 2) 2 0 67 3 true⟩,
    ⟨some 13, none, .call false false 89 [(.r 12)]⟩,
    ⟨some 6, none, .mov (.r 13)⟩]) 
  (.seq (.reg [⟨some 14, none, .mov (.r 6)⟩,
    ⟨some 15, none, .bin false .neq (.r 14) (.i .i64 0)⟩]) 
  (.cond (.r 15)
  (.seq (.reg [⟨some 16, none, .bld [] [.bool false, .nil0, .int .i64 0]⟩,
     ⟨some 17, none, .mov (.r 6)⟩,
     ⟨none, none, .st (.r 4) 4 0 70 3 (.r 16)⟩,
     ⟨some 5, none, .mov (.r 17)⟩]) 
   (.ret))
  (.skip)))) 
  (.seq (.reg [⟨some 18, none, .fad (.r 2) 1⟩,
    ⟨some 19, none, .ld (.r 18) 2 1 68 1 false⟩,
    ⟨some 20, none, .call false false 104 [(.r 19)]⟩,
    ⟨some 21, none, .mov (.r 1)⟩,
    ⟨some 22, none, .mm true (.r 21) (.i .i64 1)⟩,
    ⟨some 23, none, .bin false .sub (.r 20) (.r 22)⟩,
    ⟨some 7, none, .mov (.r 23)⟩]) 
  (.seq (.seq (.reg [⟨some 24, none, .mov (.r 7)⟩,
    ⟨some 25, none, .bin false .leq (.r 24) (.i .i64 0)⟩]) 
  (.cond (.r 25)
  (.seq (.reg [⟨some 26, none, .ld (.r 2) 2 0 67 3 true⟩,
     ⟨some 27, none, .call false false 68 [(.r 26)]⟩,
     ⟨some 28, none, .ext (.r 27) 0⟩,
     ⟨some 29, none, .ext (.r 27) 1⟩,
     ⟨none, none, .st (.r 4) 4 0 70 3 (.r 28)⟩,
     ⟨some 5, none, .mov (.r 29)⟩]) 
   (.ret))
  (.skip))) 
  (.seq (.reg [⟨some 31, none, .fad (.r 2) 1⟩,
    ⟨some 32, none, .ld (.r 31) 2 1 68 1 false⟩,
    ⟨some 33, none, .mov (.r 7)⟩,
    ⟨some 34, none, .call false false 105 [(.r 32), (.r 33)]⟩,
    ⟨some 30, none, .mov (.r 34)⟩,
    ⟨some 35, none, .ext (.r 30) 0⟩,
    ⟨some 36, none, .ext (.r 30) 1⟩,
    ⟨some 8, none, .mov (.r 35)⟩,
    ⟨some 9, none, .mov (.r 36)⟩]) 
  (.seq (.reg [⟨some 38, none, .mov (.r 8)⟩,
    ⟨some 39, none, .mov (.r 7)⟩,
    ⟨some 40, none, .call false false 92 [(.r 38), (.r 39)]⟩,
    ⟨some 37, none, .mov (.r 40)⟩,
    ⟨some 41, none, .ext (.r 37) 0⟩,
    ⟨some 42, none, .ext (.r 37) 1⟩,
    ⟨some 10, none, .mov (.r 41)⟩,
    ⟨some 11, none, .mov (.r 42)⟩]) 
  (.seq (.seq (.reg [⟨some 43, none, .fad (.r 2) 0⟩,
    ⟨some 44, none, .ld (.r 43) 2 0 67 1 false⟩,
    ⟨some 45, none, .un .not (.r 44)⟩,
    ⟨some 46, none, .mov (.r 45)⟩,
    ⟨some 47, some (46, true), .mov (.r 10)⟩,
    ⟨some 48, some (46, true), .fad (.r 2) 1⟩,
    ⟨some 49, some (46, true), .ld (.r 48) 2 1 68 1 false⟩,
    ⟨some 50, some (46, true), .call false false 106 [(.r 47), (.r 49)]⟩,
    ⟨some 51, some (46, true), .bin false .lss (.r 50) (.i .i64 0)⟩,
    ⟨some 52, none, .pick (.r 46) (.r 51) (.b false)⟩]) 
  (.cond (.r 52)
  (.reg [⟨some 53, none, .mov (.r 8)⟩,
     ⟨some 54, none, .bsl 1 1 false [(0, 1, (.i .u64 1))] [.int .u64 0]⟩,
     ⟨some 55, none, .call false false 107 [(.r 53), (.r 54)]⟩,
     ⟨some 8, none, .mov (.r 55)⟩])
  (.skip))) 
  (.seq (.reg [⟨some 56, none, .fad (.r 2) 0⟩,
    ⟨some 57, none, .ld (.r 56) 2 0 67 1 false⟩,
    ⟨some 58, none, .mov (.r 8)⟩,
    ⟨some 59, none, .bld [(0, 1, (.r 57)), (1, 1, (.r 58))] [.bool false, .nil0]⟩,
    ⟨some 60, none, .fad (.r 2) 2⟩,
    ⟨some 61, none, .ld (.r 60) 2 2 69 1 false⟩,
    ⟨some 62, none, .mov (.r 7)⟩,
    ⟨some 63, none, .bin false .add (.r 61) (.r 62)⟩,
    ⟨some 64, none, .call false false 90 [(.r 59), (.r 63)]⟩,
    ⟨some 65, none, .ext (.r 64) 0⟩,
    ⟨some 66, none, .ext (.r 64) 1⟩,
    ⟨none, none, .st (.r 4) 4 0 70 3 (.r 65)⟩,
    ⟨some 5, none, .mov (.r 66)⟩]) 
  (.ret)))))))),
  [.cell 4 4 70 3, .tmp 5]⟩
theorem chk88 : chkF Tryz.prog 88 ir88 = true := by kernel_rfl
/-- vernier/dyadic.Check -/
def ir89 : FnIr := ⟨⟨17, 20, 20, [(1, 17, 3)]⟩,
  .seq (.reg [⟨some 1, none, .box 17 3 (.r 0)⟩,
    ⟨some 2, none, .mov (.i .i64 0)⟩]) 
  (.seq (.seq (.reg [⟨some 3, none, .fad (.r 1) 2⟩,
    ⟨some 4, none, .ld (.r 3) 1 2 19 1 false⟩,
    ⟨some 5, none, .bin false .lss (.r 4) (.i .i64 (-16384))⟩,
    ⟨some 6, none, .mov (.r 5)⟩,
    ⟨some 7, some (6, false), .fad (.r 1) 2⟩,
    ⟨some 8, some (6, false), .ld (.r 7) 1 2 19 1 false⟩,
    ⟨some 9, some (6, false), .bin false .gtr (.r 8) (.i .i64 16384)⟩,
    ⟨some 10, none, .pick (.r 6) (.b true) (.r 9)⟩,
    ⟨some 11, none, .mov (.r 10)⟩,
    ⟨some 12, some (11, false), .fad (.r 1) 1⟩,
    ⟨some 13, some (11, false), .ld (.r 12) 1 1 18 1 false⟩,
    ⟨some 14, some (11, false), .len false (.r 13)⟩,
    ⟨some 15, some (11, false), .bin false .gtr (.r 14) (.i .i64 1024)⟩,
    ⟨some 16, none, .pick (.r 11) (.b true) (.r 15)⟩]) 
  (.cond (.r 16)
  (.seq (.reg [⟨some 2, none, .mov (.i .i64 9)⟩]) 
   (.ret))
  (.skip))) 
  (.seq (.reg [⟨some 2, none, .mov (.i .i64 0)⟩]) 
  (.ret))),
  [.tmp 2]⟩
theorem chk89 : chkF Tryz.prog 89 ir89 = true := by kernel_rfl
/-- vernier/dyadic.signed -/
def ir91 : FnIr := ⟨⟨8, 13, 13, [(1, 8, 3), (2, 11, 2)]⟩,
  .seq (.reg [⟨some 1, none, .box 8 3 (.r 0)⟩,
    ⟨some 2, none, .mk 11 [.bool false, .nil0]⟩]) 
  (.seq (.reg [⟨some 3, none, .fad (.r 1) 0⟩,
    ⟨some 4, none, .ld (.r 3) 1 0 8 1 false⟩,
    ⟨some 5, none, .fad (.r 1) 1⟩,
    ⟨some 6, none, .ld (.r 5) 1 1 9 1 false⟩,
    ⟨some 7, none, .bld [(0, 1, (.r 4)), (1, 1, (.r 6))] [.bool false, .nil0]⟩,
    ⟨none, none, .st (.r 2) 2 0 11 2 (.r 7)⟩]) 
  (.ret)),
  [.cell 2 2 11 2]⟩
theorem chk91 : chkF Tryz.prog 91 ir91 = true := by kernel_rfl
/-- vernier/natdiv.Shl -/
def ir92 : FnIr := ⟨⟨11, 11, 11, []⟩,
  .seq (.reg [⟨some 4, none, .mov .nil⟩,
    ⟨some 5, none, .mov (.i .i64 0)⟩]) 
  (.seq (.seq (.reg [⟨some 6, none, .mov (.r 1)⟩,
    ⟨some 7, none, .call false false 110 [(.r 6)]⟩]) 
  (.cond (.r 7)
  (.seq (.reg [⟨some 4, none, .mov .nil⟩,
     ⟨some 5, none, .mov (.i .i64 4)⟩]) 
   (.ret))
  (.skip))) 
  (.seq (.reg [⟨some 8, none, .mov (.r 0)⟩,
    ⟨some 9, none, .mov (.r 1)⟩,
    ⟨some 10, none, .call false false 111 [(.r 8), (.r 9)]⟩,
    ⟨some 4, none, .mov (.r 10)⟩,
    ⟨some 5, none, .mov (.i .i64 0)⟩]) 
  (.ret))),
  [.tmp 4, .tmp 5]⟩
theorem chk92 : chkF Tryz.prog 92 ir92 = true := by kernel_rfl
/-- vernier/whole.Sub -/
def ir94 : FnIr := ⟨⟨9, 15, 15, [(2, 9, 2), (3, 11, 2), (4, 13, 2)]⟩,
  .seq (.reg [⟨some 2, none, .box 9 2 (.r 0)⟩,
    ⟨some 3, none, .box 11 2 (.r 1)⟩,
    ⟨some 4, none, .mk 13 [.bool false, .nil0]⟩]) 
  (.seq (.reg [⟨some 5, none, .ld (.r 2) 2 0 9 2 true⟩,
    ⟨some 6, none, .ld (.r 3) 3 0 11 2 true⟩,
    ⟨some 7, none, .call false false 112 [(.r 6)]⟩,
    ⟨some 8, none, .call false false 101 [(.r 5), (.r 7)]⟩,
    ⟨none, none, .st (.r 4) 4 0 13 2 (.r 8)⟩]) 
  (.ret)),
  [.cell 4 4 13 2]⟩
theorem chk94 : chkF Tryz.prog 94 ir94 = true := by kernel_rfl
/-- (vernier/bound.sum).and -/
def ir95 : FnIr := ⟨⟨28, 46, 46, [(2, 28, 6), (3, 34, 6), (4, 40, 6)]⟩,
  .seq (.reg [⟨some 2, none, .box 28 6 (.r 0)⟩,
    ⟨some 3, none, .box 34 6 (.r 1)⟩,
    ⟨some 4, none, .mk 40 [.bool false, .nil0, .int .i64 0, .bool false, .nil0, .int .i64 0]⟩]) 
  (.seq (.reg [⟨some 5, none, .fad (.r 2) 0⟩,
    ⟨some 6, none, .ld (.r 5) 2 0 28 3 true⟩,
    ⟨some 7, none, .fad (.r 3) 0⟩,
    ⟨some 8, none, .ld (.r 7) 3 0 34 3 true⟩,
    ⟨some 9, none, .bsl 1 3 true [(0, 3, (.r 8))] [.bool false, .nil0, .int .i64 0]⟩,
    ⟨some 10, none, .call false false 66 [(.r 6), (.r 9)]⟩,
    ⟨some 11, none, .fad (.r 2) 3⟩,
    ⟨some 12, none, .ld (.r 11) 2 3 31 3 true⟩,
    ⟨some 13, none, .fad (.r 3) 3⟩,
    ⟨some 14, none, .ld (.r 13) 3 3 37 3 true⟩,
    ⟨some 15, none, .fad (.r 2) 0⟩,
    ⟨some 16, none, .ld (.r 15) 2 0 28 3 true⟩,
    ⟨some 17, none, .fad (.r 2) 3⟩,
    ⟨some 18, none, .ld (.r 17) 2 3 31 3 true⟩,
    ⟨some 19, none, .fad (.r 3) 0⟩,
    ⟨some 20, none, .ld (.r 19) 3 0 34 3 true⟩,
    ⟨some 21, none, .fad (.r 3) 3⟩,
    ⟨some 22, none, .ld (.r 21) 3 3 37 3 true⟩,
    ⟨some 23, none, .bsl 3 3 true [(0, 3, (.r 18)), (3, 3, (.r 20)), (6, 3, (.r 22))] [.bool false, .nil0, .int .i64 0]⟩,
    ⟨some 24, none, .call false false 87 [(.r 16), (.r 23)]⟩,
    ⟨some 25, none, .bsl 2 3 true [(0, 3, (.r 14)), (3, 3, (.r 24))] [.bool false, .nil0, .int .i64 0]⟩,
    ⟨some 26, none, .call false false 66 [(.r 12), (.r 25)]⟩,
    ⟨some 27, none, .bld [(0, 3, (.r 10)), (3, 3, (.r 26))] [.bool false, .nil0, .int .i64 0, .bool false, .nil0, .int .i64 0]⟩,
    ⟨none, none, .st (.r 4) 4 0 40 6 (.r 27)⟩]) 
  (.ret)),
  [.cell 4 4 40 6]⟩
theorem chk95 : chkF Tryz.prog 95 ir95 = true := by kernel_rfl
/-- (vernier/bound.maker).mul -/
def ir96 : FnIr := ⟨⟨53, 87, 87, [(3, 53, 7), (4, 60, 6), (5, 66, 6), (6, 72, 9), (7, 81, 3), (8, 84, 3)]⟩,
  .seq (.reg [⟨some 3, none, .box 53 7 (.r 0)⟩,
    ⟨some 4, none, .box 60 6 (.r 1)⟩,
    ⟨some 5, none, .box 66 6 (.r 2)⟩,
    ⟨some 6, none, .mk 72 [.bool false, .nil0, .int .i64 0, .bool false, .nil0, .int .i64 0, .bool false, .nil0, .int .i64 0]⟩]) 
  (.seq (.reg [⟨some 9, none, .fad (.r 3) 0⟩,
    ⟨some 10, none, .ld (.r 9) 3 0 53 1 false⟩,
    ⟨some 11, none, .call false false 58 [(.r 10), (.i .i64 0)]⟩,
    ⟨some 7, none, .mk 81 [.bool false, .nil0, .int .i64 0]⟩,
    ⟨none, none, .st (.r 7) 7 0 81 3 (.r 11)⟩]) 
  (.seq (.reg [⟨some 12, none, .fad (.r 3) 1⟩,
    ⟨some 13, none, .fad (.r 12) 0⟩,
    ⟨some 14, none, .ld (.r 13) 3 1 54 3 true⟩,
    ⟨some 15, none, .ld (.r 4) 4 0 60 6 true⟩,
    ⟨some 16, none, .call false false 113 [(.r 15)]⟩,
    ⟨some 17, none, .ld (.r 5) 5 0 66 6 true⟩,
    ⟨some 18, none, .call false false 113 [(.r 17)]⟩,
    ⟨some 19, none, .bsl 2 3 true [(0, 3, (.r 16)), (3, 3, (.r 18))] [.bool false, .nil0, .int .i64 0]⟩,
    ⟨some 20, none, .call false false 65 [(.r 14), (.r 19)]⟩,
    ⟨some 21, none, .ld (.r 7) 7 0 81 3 true⟩,
    ⟨some 22, none, .fad (.r 4) 3⟩,
    ⟨some 23, none, .ld (.r 22) 4 3 63 3 true⟩,
    ⟨some 24, none, .ld (.r 5) 5 0 66 6 true⟩,
    ⟨some 25, none, .call false false 113 [(.r 24)]⟩,
    ⟨some 26, none, .bsl 1 3 true [(0, 3, (.r 25))] [.bool false, .nil0, .int .i64 0]⟩,
    ⟨some 27, none, .call false false 65 [(.r 23), (.r 26)]⟩,
    ⟨some 28, none, .fad (.r 4) 0⟩,
    ⟨some 29, none, .ld (.r 28) 4 0 60 3 true⟩,
    ⟨some 30, none, .fad (.r 5) 3⟩,
    ⟨some 31, none, .ld (.r 30) 5 3 69 3 true⟩,
    ⟨some 32, none, .bsl 1 3 true [(0, 3, (.r 31))] [.bool false, .nil0, .int .i64 0]⟩,
    ⟨some 33, none, .call false false 65 [(.r 29), (.r 32)]⟩,
    ⟨some 34, none, .bsl 1 3 true [(0, 3, (.r 33))] [.bool false, .nil0, .int .i64 0]⟩,
    ⟨some 35, none, .call false false 66 [(.r 27), (.r 34)]⟩,
    ⟨some 36, none, .bsl 1 3 true [(0, 3, (.r 35))] [.bool false, .nil0, .int .i64 0]⟩,
    ⟨some 37, none, .call false false 65 [(.r 21), (.r 36)]⟩,
    ⟨some 38, none, .bsl 1 3 true [(0, 3, (.r 37))] [.bool false, .nil0, .int .i64 0]⟩,
    ⟨some 39, none, .call false false 66 [(.r 20), (.r 38)]⟩,
    ⟨some 8, none, .mk 84 [.bool false, .nil0, .int .i64 0]⟩,
    ⟨none, none, .st (.r 8) 8 0 84 3 (.r 39)⟩]) 
  (.seq (.reg [⟨some 40, none, .ld (.r 7) 7 0 81 3 true⟩,
    ⟨some 41, none, .fad (.r 4) 0⟩,
    ⟨some 42, none, .ld (.r 41) 4 0 60 3 true⟩,
    ⟨some 43, none, .fad (.r 5) 0⟩,
    ⟨some 44, none, .ld (.r 43) 5 0 66 3 true⟩,
    ⟨some 45, none, .bsl 2 3 true [(0, 3, (.r 42)), (3, 3, (.r 44))] [.bool false, .nil0, .int .i64 0]⟩,
    ⟨some 46, none, .call false false 65 [(.r 40), (.r 45)]⟩,
    ⟨some 47, none, .ld (.r 8) 8 0 84 3 true⟩,
    ⟨some 48, none, .fad (.r 3) 1⟩,
    ⟨some 49, none, .fad (.r 48) 3⟩,
    ⟨some 50, none, .ld (.r 49) 3 4 57 3 true⟩,
    ⟨some 51, none, .bld [(0, 3, (.r 47)), (3, 3, (.r 50))] [.bool false, .nil0, .int .i64 0, .bool false, .nil0, .int .i64 0]⟩,
    ⟨some 52, none, .bld [(0, 3, (.r 46)), (3, 6, (.r 51))] [.bool false, .nil0, .int .i64 0, .bool false, .nil0, .int .i64 0, .bool false, .nil0, .int .i64 0]⟩,
    ⟨none, none, .st (.r 6) 6 0 72 9 (.r 52)⟩]) 
  (.ret)))),
  [.cell 6 6 72 9]⟩
theorem chk96 : chkF Tryz.prog 96 ir96 = true := by kernel_rfl
/-- (vernier/bound.part).and -/
def ir97 : FnIr := ⟨⟨51, 81, 81, [(2, 51, 9), (3, 60, 9), (4, 69, 9), (5, 78, 3)]⟩,
  .seq (.reg [⟨some 2, none, .box 51 9 (.r 0)⟩,
    ⟨some 3, none, .box 60 9 (.r 1)⟩,
    ⟨some 4, none, .mk 69 [.bool false, .nil0, .int .i64 0, .bool false, .nil0, .int .i64 0, .bool false, .nil0, .int .i64 0]⟩]) 
  (.seq (.reg [⟨some 6, none, .fad (.r 2) 3⟩,
    ⟨some 7, none, .fad (.r 6) 0⟩,
    ⟨some 8, none, .ld (.r 7) 2 3 54 3 true⟩,
    ⟨some 9, none, .fad (.r 3) 3⟩,
    ⟨some 10, none, .fad (.r 9) 0⟩,
    ⟨some 11, none, .ld (.r 10) 3 3 63 3 true⟩,
    ⟨some 12, none, .fad (.r 2) 0⟩,
    ⟨some 13, none, .ld (.r 12) 2 0 51 3 true⟩,
    ⟨some 14, none, .fad (.r 2) 3⟩,
    ⟨some 15, none, .fad (.r 14) 0⟩,
    ⟨some 16, none, .ld (.r 15) 2 3 54 3 true⟩,
    ⟨some 17, none, .fad (.r 3) 0⟩,
    ⟨some 18, none, .ld (.r 17) 3 0 60 3 true⟩,
    ⟨some 19, none, .fad (.r 3) 3⟩,
    ⟨some 20, none, .fad (.r 19) 0⟩,
    ⟨some 21, none, .ld (.r 20) 3 3 63 3 true⟩,
    ⟨some 22, none, .bsl 3 3 true [(0, 3, (.r 16)), (3, 3, (.r 18)), (6, 3, (.r 21))] [.bool false, .nil0, .int .i64 0]⟩,
    ⟨some 23, none, .call false false 87 [(.r 13), (.r 22)]⟩,
    ⟨some 24, none, .bsl 2 3 true [(0, 3, (.r 11)), (3, 3, (.r 23))] [.bool false, .nil0, .int .i64 0]⟩,
    ⟨some 25, none, .call false false 66 [(.r 8), (.r 24)]⟩,
    ⟨some 5, none, .mk 78 [.bool false, .nil0, .int .i64 0]⟩,
    ⟨none, none, .st (.r 5) 5 0 78 3 (.r 25)⟩]) 
  (.seq (.reg [⟨some 26, none, .fad (.r 2) 0⟩,
    ⟨some 27, none, .ld (.r 26) 2 0 51 3 true⟩,
    ⟨some 28, none, .fad (.r 3) 0⟩,
    ⟨some 29, none, .ld (.r 28) 3 0 60 3 true⟩,
    ⟨some 30, none, .bsl 1 3 true [(0, 3, (.r 29))] [.bool false, .nil0, .int .i64 0]⟩,
    ⟨some 31, none, .call false false 66 [(.r 27), (.r 30)]⟩,
    ⟨some 32, none, .ld (.r 5) 5 0 78 3 true⟩,
    ⟨some 33, none, .fad (.r 2) 3⟩,
    ⟨some 34, none, .fad (.r 33) 3⟩,
    ⟨some 35, none, .ld (.r 34) 2 6 57 3 true⟩,
    ⟨some 36, none, .fad (.r 3) 3⟩,
    ⟨some 37, none, .fad (.r 36) 3⟩,
    ⟨some 38, none, .ld (.r 37) 3 6 66 3 true⟩,
    ⟨some 39, none, .fad (.r 2) 3⟩,
    ⟨some 40, none, .fad (.r 39) 3⟩,
    ⟨some 41, none, .ld (.r 40) 2 6 57 3 true⟩,
    ⟨some 42, none, .fad (.r 3) 3⟩,
    ⟨some 43, none, .fad (.r 42) 3⟩,
    ⟨some 44, none, .ld (.r 43) 3 6 66 3 true⟩,
    ⟨some 45, none, .bsl 1 3 true [(0, 3, (.r 44))] [.bool false, .nil0, .int .i64 0]⟩,
    ⟨some 46, none, .call false false 87 [(.r 41), (.r 45)]⟩,
    ⟨some 47, none, .bsl 2 3 true [(0, 3, (.r 38)), (3, 3, (.r 46))] [.bool false, .nil0, .int .i64 0]⟩,
    ⟨some 48, none, .call false false 66 [(.r 35), (.r 47)]⟩,
    ⟨some 49, none, .bld [(0, 3, (.r 32)), (3, 3, (.r 48))] [.bool false, .nil0, .int .i64 0, .bool false, .nil0, .int .i64 0]⟩,
    ⟨some 50, none, .bld [(0, 3, (.r 31)), (3, 6, (.r 49))] [.bool false, .nil0, .int .i64 0, .bool false, .nil0, .int .i64 0, .bool false, .nil0, .int .i64 0]⟩,
    ⟨none, none, .st (.r 4) 4 0 69 9 (.r 50)⟩]) 
  (.ret))),
  [.cell 4 4 69 9]⟩
theorem chk97 : chkF Tryz.prog 97 ir97 = true := by kernel_rfl
/-- vernier/whole.Add -/
def ir101 : FnIr := ⟨⟨36, 44, 44, [(2, 36, 2), (3, 38, 2), (4, 40, 2), (5, 42, 2)]⟩,
  .seq (.reg [⟨some 2, none, .box 36 2 (.r 0)⟩,
    ⟨some 3, none, .box 38 2 (.r 1)⟩,
    ⟨some 4, none, .mk 40 [.bool false, .nil0]⟩]) 
  (.seq (.seq (.reg [⟨some 6, none, .fad (.r 2) 0⟩,
    ⟨some 7, none, .ld (.r 6) 2 0 36 1 false⟩,
    ⟨some 8, none, .fad (.r 3) 0⟩,
    ⟨some 9, none, .ld (.r 8) 3 0 38 1 false⟩,
    ⟨some 10, none, .bin true .eql (.r 7) (.r 9)⟩]) 
  (.cond (.r 10)
  (.seq (.reg [⟨some 11, none, .fad (.r 2) 0⟩,
     ⟨some 12, none, .ld (.r 11) 2 0 36 1 false⟩,
     ⟨some 13, none, .fad (.r 2) 1⟩,
     ⟨some 14, none, .ld (.r 13) 2 1 37 1 false⟩,
     ⟨some 15, none, .fad (.r 3) 1⟩,
     ⟨some 16, none, .ld (.r 15) 3 1 39 1 false⟩,
     ⟨some 17, none, .call false false 107 [(.r 14), (.r 16)]⟩,
     ⟨some 18, none, .call false false 115 [(.r 12), (.r 17)]⟩,
     ⟨none, none, .st (.r 4) 4 0 40 2 (.r 18)⟩]) 
   (.ret))
  (.skip))) 
  (.seq (.reg [⟨some 19, none, .fad (.r 2) 1⟩,
    ⟨some 20, none, .ld (.r 19) 2 1 37 1 false⟩,
    ⟨some 21, none, .fad (.r 3) 1⟩,
    ⟨some 22, none, .ld (.r 21) 3 1 39 1 false⟩,
    ⟨some 23, none, .call false false 106 [(.r 20), (.r 22)]⟩,
    ⟨some 24, none, .bin false .lss (.r 23) (.i .i64 0)⟩,
    ⟨some 25, none, .ld (.r 3) 3 0 38 2 true⟩,
    ⟨some 26, none, .ld (.r 2) 2 0 36 2 true⟩,
    ⟨some 27, none, .call false false 116 [(.r 24), (.r 25), (.r 26)]⟩,
    ⟨some 5, none, .mk 42 [.bool false, .nil0]⟩,
    ⟨none, none, .st (.r 5) 5 0 42 2 (.r 27)⟩]) 
  (.seq (.reg [⟨some 28, none, .fad (.r 5) 0⟩,
    ⟨some 29, none, .ld (.r 28) 5 0 42 1 false⟩,
    ⟨some 30, none, .fad (.r 2) 1⟩,
    ⟨some 31, none, .ld (.r 30) 2 1 37 1 false⟩,
    ⟨some 32, none, .fad (.r 3) 1⟩,
    ⟨some 33, none, .ld (.r 32) 3 1 39 1 false⟩,
    ⟨some 34, none, .call false false 117 [(.r 31), (.r 33)]⟩,
    ⟨some 35, none, .call false false 115 [(.r 29), (.r 34)]⟩,
    ⟨none, none, .st (.r 4) 4 0 40 2 (.r 35)⟩]) 
  (.ret)))),
  [.cell 4 4 40 2]⟩
theorem chk101 : chkF Tryz.prog 101 ir101 = true := by kernel_rfl
/-- vernier/whole.Mul -/
def ir102 : FnIr := ⟨⟨16, 22, 22, [(2, 16, 2), (3, 18, 2), (4, 20, 2)]⟩,
  .seq (.reg [⟨some 2, none, .box 16 2 (.r 0)⟩,
    ⟨some 3, none, .box 18 2 (.r 1)⟩,
    ⟨some 4, none, .mk 20 [.bool false, .nil0]⟩]) 
  (.seq (.reg [⟨some 5, none, .fad (.r 2) 0⟩,
    ⟨some 6, none, .ld (.r 5) 2 0 16 1 false⟩,
    ⟨some 7, none, .fad (.r 3) 0⟩,
    ⟨some 8, none, .ld (.r 7) 3 0 18 1 false⟩,
    ⟨some 9, none, .bin true .neq (.r 6) (.r 8)⟩,
    ⟨some 10, none, .fad (.r 2) 1⟩,
    ⟨some 11, none, .ld (.r 10) 2 1 17 1 false⟩,
    ⟨some 12, none, .fad (.r 3) 1⟩,
    ⟨some 13, none, .ld (.r 12) 3 1 19 1 false⟩,
    ⟨some 14, none, .call false false 118 [(.r 11), (.r 13)]⟩,
    ⟨some 15, none, .call false false 115 [(.r 9), (.r 14)]⟩,
    ⟨none, none, .st (.r 4) 4 0 20 2 (.r 15)⟩]) 
  (.ret)),
  [.cell 4 4 20 2]⟩
theorem chk102 : chkF Tryz.prog 102 ir102 = true := by kernel_rfl
/-- vernier/whole.Of -/
def ir103 : FnIr := ⟨⟨15, 17, 17, [(2, 15, 2)]⟩,
  .seq (.reg [⟨some 2, none, .mk 15 [.bool false, .nil0]⟩]) 
  (.seq (.reg [⟨some 4, none, .mov (.r 0)⟩,
    ⟨some 5, none, .conv .u64 (.r 4)⟩,
    ⟨some 3, none, .mov (.r 5)⟩]) 
  (.seq (.seq (.reg [⟨some 6, none, .mov (.r 0)⟩,
    ⟨some 7, none, .bin false .lss (.r 6) (.i .i64 0)⟩]) 
  (.cond (.r 7)
  (.reg [⟨some 8, none, .mov (.r 3)⟩,
     ⟨some 9, none, .un .neg (.r 8)⟩,
     ⟨some 3, none, .mov (.r 9)⟩])
  (.skip))) 
  (.seq (.reg [⟨some 10, none, .mov (.r 0)⟩,
    ⟨some 11, none, .bin false .lss (.r 10) (.i .i64 0)⟩,
    ⟨some 12, none, .mov (.r 3)⟩,
    ⟨some 13, none, .bsl 1 1 false [(0, 1, (.r 12))] [.int .u64 0]⟩,
    ⟨some 14, none, .call false false 115 [(.r 11), (.r 13)]⟩,
    ⟨none, none, .st (.r 2) 2 0 15 2 (.r 14)⟩]) 
  (.ret)))),
  [.cell 2 2 15 2]⟩
theorem chk103 : chkF Tryz.prog 103 ir103 = true := by kernel_rfl
/-- vernier/natdiv.Shr -/
def ir105 : FnIr := ⟨⟨11, 11, 11, []⟩,
  .seq (.reg [⟨some 4, none, .mov .nil⟩,
    ⟨some 5, none, .mov (.i .i64 0)⟩]) 
  (.seq (.seq (.reg [⟨some 6, none, .mov (.r 1)⟩,
    ⟨some 7, none, .call false false 110 [(.r 6)]⟩]) 
  (.cond (.r 7)
  (.seq (.reg [⟨some 4, none, .mov .nil⟩,
     ⟨some 5, none, .mov (.i .i64 4)⟩]) 
   (.ret))
  (.skip))) 
  (.seq (.reg [⟨some 8, none, .mov (.r 0)⟩,
    ⟨some 9, none, .mov (.r 1)⟩,
    ⟨some 10, none, .call false false 121 [(.r 8), (.r 9)]⟩,
    ⟨some 4, none, .mov (.r 10)⟩,
    ⟨some 5, none, .mov (.i .i64 0)⟩]) 
  (.ret))),
  [.tmp 4, .tmp 5]⟩
theorem chk105 : chkF Tryz.prog 105 ir105 = true := by kernel_rfl
/-- vernier/natdiv.odd -/
def ir110 : FnIr := ⟨⟨9, 9, 9, []⟩,
  .seq (.reg [⟨some 2, none, .mov (.b false)⟩]) 
  (.seq (.reg [⟨some 3, none, .mov (.r 0)⟩,
    ⟨some 4, none, .bin false .lss (.r 3) (.i .i64 0)⟩,
    ⟨some 5, none, .mov (.r 4)⟩,
    ⟨some 6, some (5, false), .mov (.r 0)⟩,
    ⟨some 7, some (5, false), .bin false .gtr (.r 6) (.i .i64 65536)⟩,
    ⟨some 8, none, .pick (.r 5) (.b true) (.r 7)⟩,
    ⟨some 2, none, .mov (.r 8)⟩]) 
  (.ret)),
  [.tmp 2]⟩
theorem chk110 : chkF Tryz.prog 110 ir110 = true := by kernel_rfl
/-- vernier/whole.Neg -/
def ir112 : FnIr := ⟨⟨9, 13, 13, [(1, 9, 2), (2, 11, 2)]⟩,
  .seq (.reg [⟨some 1, none, .box 9 2 (.r 0)⟩,
    ⟨some 2, none, .mk 11 [.bool false, .nil0]⟩]) 
  (.seq (.reg [⟨some 3, none, .fad (.r 1) 0⟩,
    ⟨some 4, none, .ld (.r 3) 1 0 9 1 false⟩,
    ⟨some 5, none, .un .not (.r 4)⟩,
    ⟨some 6, none, .fad (.r 1) 1⟩,
    ⟨some 7, none, .ld (.r 6) 1 1 10 1 false⟩,
    ⟨some 8, none, .call false false 115 [(.r 5), (.r 7)]⟩,
    ⟨none, none, .st (.r 2) 2 0 11 2 (.r 8)⟩]) 
  (.ret)),
  [.cell 2 2 11 2]⟩
theorem chk112 : chkF Tryz.prog 112 ir112 = true := by kernel_rfl
/-- (vernier/bound.sum).great -/
def ir113 : FnIr := ⟨⟨9, 18, 18, [(1, 9, 6), (2, 15, 3)]⟩,
  .seq (.reg [⟨some 1, none, .box 9 6 (.r 0)⟩,
    ⟨some 2, none, .mk 15 [.bool false, .nil0, .int .i64 0]⟩]) 
  (.seq (.reg [⟨some 3, none, .fad (.r 1) 0⟩,
    ⟨some 4, none, .ld (.r 3) 1 0 9 3 true⟩,
    ⟨some 5, none, .fad (.r 1) 3⟩,
    ⟨some 6, none, .ld (.r 5) 1 3 12 3 true⟩,
    ⟨some 7, none, .bsl 1 3 true [(0, 3, (.r 6))] [.bool false, .nil0, .int .i64 0]⟩,
    ⟨some 8, none, .call false false 66 [(.r 4), (.r 7)]⟩,
    ⟨none, none, .st (.r 2) 2 0 15 3 (.r 8)⟩]) 
  (.ret)),
  [.cell 2 2 15 3]⟩
theorem chk113 : chkF Tryz.prog 113 ir113 = true := by kernel_rfl
/-- vernier/whole.either[vernier/api.Whole] -/
def ir116 : FnIr := ⟨⟨10, 16, 16, [(4, 10, 2), (5, 12, 2), (6, 14, 2)]⟩,
  .seq (.reg [⟨some 4, none, .box 10 2 (.r 1)⟩,
    ⟨some 5, none, .box 12 2 (.r 2)⟩,
    ⟨some 6, none, .mk 14 [.bool false, .nil0]⟩]) 
  (.seq (.seq (.reg [⟨some 7, none, .mov (.r 0)⟩]) 
  (.cond (.r 7)
  (.seq (.reg [⟨some 8, none, .ld (.r 4) 4 0 10 2 true⟩,
     ⟨none, none, .st (.r 6) 6 0 14 2 (.r 8)⟩]) 
   (.ret))
  (.skip))) 
  (.seq (.reg [⟨some 9, none, .ld (.r 5) 5 0 12 2 true⟩,
    ⟨none, none, .st (.r 6) 6 0 14 2 (.r 9)⟩]) 
  (.ret))),
  [.cell 6 6 14 2]⟩
theorem chk116 : chkF Tryz.prog 116 ir116 = true := by kernel_rfl
end Go.Proofs.YtmbdbkcifmkpbaaGreatDoor.Den

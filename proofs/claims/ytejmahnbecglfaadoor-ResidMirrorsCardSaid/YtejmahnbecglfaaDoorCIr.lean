/- The program's functions, as abstract code. -/
import Derived.Test.YtejmahnbecglfaaDoorProg
import Derived.Test.YtejmahnbecglfaaDoorCDnB
import Derived.KernelRfl

set_option linter.unusedVariables false
namespace Go.Proofs.YtejmahnbecglfaaDoor.Den
open Go
set_option maxRecDepth 100000
/-- vernier/vernierlaw35.ResidMirrors -/
def ir4 : FnIr := ⟨⟨150, 180, 181, [(4, 150, 3), (5, 153, 3), (6, 156, 3), (7, 159, 3), (9, 162, 3), (10, 165, 3), (15, 168, 3), (16, 171, 3), (17, 174, 3), (18, 177, 3)]⟩,
  .seq (.reg [⟨some 4, none, .box 150 3 (.r 0)⟩,
    ⟨some 5, none, .box 153 3 (.r 1)⟩,
    ⟨some 6, none, .box 156 3 (.r 2)⟩,
    ⟨some 7, none, .box 159 3 (.r 3)⟩,
    ⟨some 8, none, .mov (.b false)⟩]) 
  (.seq (.seq (.reg [⟨some 20, none, .call false false 6 []⟩,
    ⟨some 21, none, .un .not (.r 20)⟩]) 
  (.cond (.r 21)
  (.seq (.reg [⟨some 8, none, .mov (.b false)⟩]) 
   (.ret))
  (.skip))) 
  (.seq (.reg [⟨some 23, none, .ld (.r 4) 4 0 150 3 true⟩,
    ⟨some 24, none, .ld (.r 5) 5 0 153 3 true⟩,
    ⟨some 25, none, .ld (.r 6) 6 0 156 3 true⟩,
    ⟨some 26, none, .ld (.r 7) 7 0 159 3 true⟩,
    ⟨some 27, none, .call false false 18 [(.r 23), (.r 24), (.r 25), (.r 26)]⟩,
    ⟨some 22, none, .mov (.r 27)⟩,
    ⟨some 28, none, .ext (.r 22) 0⟩,
    ⟨some 29, none, .ext (.r 22) 1⟩,
    ⟨some 30, none, .ext (.r 22) 2⟩,
    ⟨some 9, none, .mk 162 [.bool false, .nil0, .int .i64 0]⟩,
    ⟨some 10, none, .mk 165 [.bool false, .nil0, .int .i64 0]⟩,
    ⟨none, none, .st (.r 9) 9 0 162 3 (.r 28)⟩,
    ⟨none, none, .st (.r 10) 10 0 165 3 (.r 29)⟩,
    ⟨some 11, none, .mov (.r 30)⟩]) 
  (.seq (.reg [⟨some 31, none, .ld (.r 4) 4 0 150 3 true⟩,
    ⟨some 32, none, .ld (.r 5) 5 0 153 3 true⟩,
    ⟨some 33, none, .ld (.r 6) 6 0 156 3 true⟩,
    ⟨some 34, none, .ld (.r 7) 7 0 159 3 true⟩,
    ⟨some 35, none, .bsl 4 3 true [(0, 3, (.r 31)), (3, 3, (.r 32)), (6, 3, (.r 33)), (9, 3, (.r 34))] [.int .i64 0, .int .i64 0, .nil0]⟩,
    ⟨some 36, none, .call false false 10 [(.r 35)]⟩,
    ⟨some 12, none, .mov (.r 36)⟩]) 
  (.seq (.reg [⟨some 37, none, .fad (.r 4) 1⟩,
    ⟨some 38, none, .ld (.r 37) 4 1 151 1 false⟩,
    ⟨some 13, none, .mov (.r 38)⟩]) 
  (.seq (.reg [⟨some 39, none, .fad (.r 5) 0⟩,
    ⟨some 40, none, .ld (.r 39) 5 0 153 1 false⟩,
    ⟨some 41, none, .fad (.r 4) 0⟩,
    ⟨some 42, none, .ld (.r 41) 4 0 150 1 false⟩,
    ⟨some 43, none, .bin false .eql (.r 40) (.r 42)⟩,
    ⟨some 44, none, .mov (.r 43)⟩,
    ⟨some 45, some (44, true), .fad (.r 5) 1⟩,
    ⟨some 46, some (44, true), .ld (.r 45) 5 1 154 1 false⟩,
    ⟨some 47, some (44, true), .mov (.r 13)⟩,
    ⟨some 48, some (44, true), .bin false .eql (.r 46) (.r 47)⟩,
    ⟨some 49, none, .pick (.r 44) (.r 48) (.b false)⟩,
    ⟨some 50, none, .mov (.r 49)⟩,
    ⟨some 51, some (50, true), .fad (.r 6) 0⟩,
    ⟨some 52, some (50, true), .ld (.r 51) 6 0 156 1 false⟩,
    ⟨some 53, some (50, true), .mov (.r 13)⟩,
    ⟨some 54, some (50, true), .bin false .eql (.r 52) (.r 53)⟩,
    ⟨some 55, none, .pick (.r 50) (.r 54) (.b false)⟩,
    ⟨some 56, none, .mov (.r 55)⟩,
    ⟨some 57, some (56, true), .fad (.r 6) 1⟩,
    ⟨some 58, some (56, true), .ld (.r 57) 6 1 157 1 false⟩,
    ⟨some 59, some (56, true), .mov (.r 13)⟩,
    ⟨some 60, some (56, true), .bin false .eql (.r 58) (.r 59)⟩,
    ⟨some 61, none, .pick (.r 56) (.r 60) (.b false)⟩,
    ⟨some 62, none, .mov (.r 61)⟩,
    ⟨some 63, some (62, true), .fad (.r 7) 0⟩,
    ⟨some 64, some (62, true), .ld (.r 63) 7 0 159 1 false⟩,
    ⟨some 65, some (62, true), .mov (.r 13)⟩,
    ⟨some 66, some (62, true), .bin false .eql (.r 64) (.r 65)⟩,
    ⟨some 67, none, .pick (.r 62) (.r 66) (.b false)⟩,
    ⟨some 68, none, .mov (.r 67)⟩,
    ⟨some 69, some (68, true), .fad (.r 7) 1⟩,
    ⟨some 70, some (68, true), .ld (.r 69) 7 1 160 1 false⟩,
    ⟨some 71, some (68, true), .mov (.r 13)⟩,
    ⟨some 72, some (68, true), .bin false .eql (.r 70) (.r 71)⟩,
    ⟨some 73, none, .pick (.r 68) (.r 72) (.b false)⟩,
    ⟨some 74, none, .mov (.r 73)⟩,
    ⟨some 75, some (74, true), .fad (.r 4) 0⟩,
    ⟨some 76, some (74, true), .ld (.r 75) 4 0 150 1 false⟩,
    ⟨some 77, some (74, true), .mov (.r 13)⟩,
    ⟨some 78, some (74, true), .bin false .geq (.r 76) (.r 77)⟩,
    ⟨some 79, none, .pick (.r 74) (.r 78) (.b false)⟩,
    ⟨some 14, none, .mov (.r 79)⟩]) 
  (.seq (.reg [⟨some 80, none, .bld [] [.bool false, .nil0, .int .i64 0]⟩,
    ⟨some 81, none, .bld [] [.bool false, .nil0, .int .i64 0]⟩,
    ⟨some 15, none, .mk 168 [.bool false, .nil0, .int .i64 0]⟩,
    ⟨some 16, none, .mk 171 [.bool false, .nil0, .int .i64 0]⟩,
    ⟨none, none, .st (.r 15) 15 0 168 3 (.r 80)⟩,
    ⟨none, none, .st (.r 16) 16 0 171 3 (.r 81)⟩]) 
  (.seq (.seq (.reg [⟨some 82, none, .mov (.r 12)⟩,
    ⟨some 83, none, .bin false .eql (.r 82) (.i .i64 0)⟩,
    ⟨some 84, none, .mov (.r 83)⟩,
    ⟨some 85, some (84, true), .mov (.r 14)⟩,
    ⟨some 86, none, .pick (.r 84) (.r 85) (.b false)⟩]) 
  (.cond (.r 86)
  (.seq (.reg [⟨some 87, none, .ld (.r 5) 5 0 153 3 true⟩,
     ⟨some 88, none, .call false false 14 [(.r 87)]⟩,
     ⟨some 89, none, .ld (.r 6) 6 0 156 3 true⟩,
     ⟨some 90, none, .call false false 14 [(.r 89)]⟩,
     ⟨some 91, none, .call false false 15 [(.r 88), (.r 90)]⟩,
     ⟨some 92, none, .ld (.r 5) 5 0 153 3 true⟩,
     ⟨some 93, none, .call false false 14 [(.r 92)]⟩,
     ⟨some 94, none, .call false false 19 [(.r 93)]⟩,
     ⟨some 95, none, .call false false 15 [(.r 91), (.r 94)]⟩,
     ⟨some 17, none, .mk 174 [.int .i64 0, .int .i64 0, .nil0]⟩,
     ⟨none, none, .st (.r 17) 17 0 174 3 (.r 95)⟩]) 
   (.seq (.reg [⟨some 96, none, .fad (.r 4) 0⟩,
     ⟨some 97, none, .ld (.r 96) 4 0 150 1 false⟩,
     ⟨some 98, none, .callf 0 20 [(.r 97)]⟩,
     ⟨some 18, none, .mk 177 [.int .i64 0, .int .i64 0, .nil0]⟩,
     ⟨none, none, .st (.r 18) 18 0 177 3 (.r 98)⟩]) 
   (.seq (.seq (.reg [⟨some 19, none, .mov (.i .i64 0)⟩]) 
   (.block 0 (.kil ⟨[99, 100, 101, 102, 103, 104, 105, 106, 107, 108, 109, 110, 111, 112, 113, 114, 115, 116, 117, 118, 119, 120], [], [], []⟩ (.loop ⟨[99, 100, 101, 102, 103, 104, 105, 106, 107, 108, 109, 110, 111, 112, 113, 114, 115, 116, 117, 118, 119, 120], [], [], []⟩ (.seq (.seq (.reg [⟨some 99, none, .mov (.r 19)⟩,
       ⟨some 100, none, .fad (.r 18) 2⟩,
       ⟨some 101, none, .ld (.r 100) 18 2 179 1 false⟩,
       ⟨some 102, none, .len true (.r 101)⟩,
       ⟨some 103, none, .bin false .lss (.r 99) (.r 102)⟩]) 
     (.cond (.r 103)
     (.skip)
     (.exit 0))) 
     (.seq (.block 1 (.reg [⟨some 106, none, .fad (.r 18) 2⟩,
        ⟨some 107, none, .ld (.r 106) 18 2 179 1 false⟩,
        ⟨some 108, none, .mov (.r 19)⟩,
        ⟨some 109, none, .fad (.r 18) 2⟩,
        ⟨some 110, none, .ld (.r 109) 18 2 179 1 false⟩,
        ⟨some 111, none, .mov (.r 19)⟩,
        ⟨some 112, none, .eat true (.r 110) (.r 111) 3⟩,
        ⟨some 113, none, .lde true (.r 112) 3 true⟩,
        ⟨some 114, none, .fad (.r 17) 2⟩,
        ⟨some 115, none, .ld (.r 114) 17 2 176 1 false⟩,
        ⟨some 116, none, .mov (.r 19)⟩,
        ⟨some 117, none, .eat false (.r 115) (.r 116) 3⟩,
        ⟨some 118, none, .lde false (.r 117) 3 true⟩,
        ⟨some 119, none, .call false false 21 [(.r 113), (.r 118)]⟩,
        ⟨some 120, none, .eat true (.r 107) (.r 108) 3⟩,
        ⟨none, none, .ste (.r 120) true 3 (.r 119)⟩])) 
     (.reg [⟨some 104, none, .mov (.r 19)⟩,
       ⟨some 105, none, .bin false .add (.r 104) (.i .i64 1)⟩,
       ⟨some 19, none, .mov (.r 105)⟩]))))))) 
   (.kil ⟨[], [], [], [0]⟩ (.reg [⟨some 121, none, .ld (.r 4) 4 0 150 3 true⟩,
     ⟨some 122, none, .call false false 14 [(.r 121)]⟩,
     ⟨some 123, none, .ld (.r 18) 18 0 177 3 true⟩,
     ⟨some 124, none, .ld (.r 7) 7 0 159 3 true⟩,
     ⟨some 125, none, .call false false 14 [(.r 124)]⟩,
     ⟨some 126, none, .call true false 15 [(.r 123), (.r 125)]⟩,
     ⟨some 127, none, .call false false 13 [(.r 122), (.r 126)]⟩,
     ⟨some 128, none, .ld (.r 18) 18 0 177 3 true⟩,
     ⟨some 129, none, .call true false 19 [(.r 128)]⟩,
     ⟨some 130, none, .ld (.r 18) 18 0 177 3 true⟩,
     ⟨some 131, none, .call true false 15 [(.r 129), (.r 130)]⟩,
     ⟨some 132, none, .fad (.r 4) 0⟩,
     ⟨some 133, none, .ld (.r 132) 4 0 150 1 false⟩,
     ⟨some 134, none, .call false false 20 [(.r 133)]⟩,
     ⟨some 135, none, .call false false 13 [(.r 131), (.r 134)]⟩,
     ⟨none, none, .st (.r 15) 15 0 168 3 (.r 127)⟩,
     ⟨none, none, .st (.r 16) 16 0 171 3 (.r 135)⟩])))))
  (.skip))) 
  (.seq (.reg [⟨some 136, none, .ld (.r 9) 9 0 162 3 true⟩,
    ⟨some 137, none, .mov (.r 11)⟩,
    ⟨some 138, none, .mov (.r 12)⟩,
    ⟨some 139, none, .mov (.r 14)⟩,
    ⟨some 140, none, .ld (.r 15) 15 0 168 3 true⟩,
    ⟨some 141, none, .call false false 16 [(.r 136), (.r 137), (.r 138), (.r 139), (.r 140)]⟩,
    ⟨some 142, none, .mov (.r 141)⟩,
    ⟨some 143, some (142, true), .ld (.r 10) 10 0 165 3 true⟩,
    ⟨some 144, some (142, true), .mov (.r 11)⟩,
    ⟨some 145, some (142, true), .mov (.r 12)⟩,
    ⟨some 146, some (142, true), .mov (.r 14)⟩,
    ⟨some 147, some (142, true), .ld (.r 16) 16 0 171 3 true⟩,
    ⟨some 148, some (142, true), .call false false 16 [(.r 143), (.r 144), (.r 145), (.r 146), (.r 147)]⟩,
    ⟨some 149, none, .pick (.r 142) (.r 148) (.b false)⟩,
    ⟨some 8, none, .mov (.r 149)⟩]) 
  (.ret))))))))),
  [.tmp 8]⟩
theorem chk4 : chkF Tryd.prog 4 ir4 = true := by kernel_rfl
/-- vernier/vernierlaw35.alive -/
def ir6 : FnIr := ⟨⟨38, 47, 47, [(1, 38, 3), (2, 41, 3), (4, 44, 3)]⟩,
  .seq (.reg [⟨some 0, none, .mov (.b false)⟩]) 
  (.seq (.reg [⟨some 6, none, .bsl 1 1 false [(0, 1, (.i .u64 4607182418800017408))] [.int .u64 0]⟩,
    ⟨some 7, none, .bld [(0, 1, (.i .i64 1)), (1, 1, (.i .i64 1)), (2, 1, (.r 6))] [.int .i64 0, .int .i64 0, .nil0]⟩,
    ⟨some 1, none, .mk 38 [.int .i64 0, .int .i64 0, .nil0]⟩,
    ⟨none, none, .st (.r 1) 1 0 38 3 (.r 7)⟩]) 
  (.seq (.reg [⟨some 9, none, .ld (.r 1) 1 0 38 3 true⟩,
    ⟨some 10, none, .ld (.r 1) 1 0 38 3 true⟩,
    ⟨some 11, none, .ld (.r 1) 1 0 38 3 true⟩,
    ⟨some 12, none, .call false false 8 [(.r 9), (.r 10), (.r 11)]⟩,
    ⟨some 8, none, .mov (.r 12)⟩,
    ⟨some 13, none, .ext (.r 8) 0⟩,
    ⟨some 14, none, .ext (.r 8) 1⟩,
    ⟨some 2, none, .mk 41 [.bool false, .nil0, .int .i64 0]⟩,
    ⟨none, none, .st (.r 2) 2 0 41 3 (.r 13)⟩,
    ⟨some 3, none, .mov (.r 14)⟩]) 
  (.seq (.reg [⟨some 16, none, .ld (.r 1) 1 0 38 3 true⟩,
    ⟨some 17, none, .call false false 7 [(.r 16)]⟩,
    ⟨some 15, none, .mov (.r 17)⟩,
    ⟨some 18, none, .ext (.r 15) 0⟩,
    ⟨some 19, none, .ext (.r 15) 1⟩,
    ⟨some 4, none, .mk 44 [.bool false, .nil0, .int .i64 0]⟩,
    ⟨none, none, .st (.r 4) 4 0 44 3 (.r 18)⟩,
    ⟨some 5, none, .mov (.r 19)⟩]) 
  (.seq (.reg [⟨some 20, none, .mov (.r 3)⟩,
    ⟨some 21, none, .bin false .eql (.r 20) (.i .i64 0)⟩,
    ⟨some 22, none, .mov (.r 21)⟩,
    ⟨some 23, some (22, true), .mov (.r 5)⟩,
    ⟨some 24, some (22, true), .bin false .eql (.r 23) (.i .i64 0)⟩,
    ⟨some 25, none, .pick (.r 22) (.r 24) (.b false)⟩,
    ⟨some 26, none, .mov (.r 25)⟩,
    ⟨some 27, some (26, true), .fad (.r 2) 1⟩,
    ⟨some 28, some (26, true), .ld (.r 27) 2 1 42 1 false⟩,
    ⟨some 29, some (26, true), .len false (.r 28)⟩,
    ⟨some 30, some (26, true), .bin false .eql (.r 29) (.i .i64 0)⟩,
    ⟨some 31, none, .pick (.r 26) (.r 30) (.b false)⟩,
    ⟨some 32, none, .mov (.r 31)⟩,
    ⟨some 33, some (32, true), .fad (.r 4) 1⟩,
    ⟨some 34, some (32, true), .ld (.r 33) 4 1 45 1 false⟩,
    ⟨some 35, some (32, true), .len false (.r 34)⟩,
    ⟨some 36, some (32, true), .bin false .eql (.r 35) (.i .i64 1)⟩,
    ⟨some 37, none, .pick (.r 32) (.r 36) (.b false)⟩,
    ⟨some 0, none, .mov (.r 37)⟩]) 
  (.ret))))),
  [.tmp 0]⟩
theorem chk6 : chkF Tryd.prog 6 ir6 = true := by kernel_rfl
/-- vernier/resid.Max -/
def ir7 : FnIr := ⟨⟨15, 21, 21, [(1, 15, 3), (2, 18, 3)]⟩,
  .seq (.reg [⟨some 1, none, .box 15 3 (.r 0)⟩,
    ⟨some 2, none, .mk 18 [.bool false, .nil0, .int .i64 0]⟩,
    ⟨some 3, none, .mov (.i .i64 0)⟩]) 
  (.seq (.seq (.reg [⟨some 5, none, .ld (.r 1) 1 0 15 3 true⟩,
    ⟨some 6, none, .bsl 1 3 true [(0, 3, (.r 5))] [.int .i64 0, .int .i64 0, .nil0]⟩,
    ⟨some 7, none, .call false false 26 [(.r 6)]⟩,
    ⟨some 4, none, .mov (.r 7)⟩]) 
  (.seq (.reg [⟨some 8, none, .mov (.r 4)⟩,
    ⟨some 9, none, .bin false .neq (.r 8) (.i .i64 0)⟩]) 
  (.cond (.r 9)
  (.seq (.reg [⟨some 10, none, .bld [] [.bool false, .nil0, .int .i64 0]⟩,
     ⟨some 11, none, .mov (.r 4)⟩,
     ⟨none, none, .st (.r 2) 2 0 18 3 (.r 10)⟩,
     ⟨some 3, none, .mov (.r 11)⟩]) 
   (.ret))
  (.skip)))) 
  (.seq (.reg [⟨some 12, none, .ld (.r 1) 1 0 15 3 true⟩,
    ⟨some 13, none, .call false false 27 [(.r 12)]⟩,
    ⟨some 14, none, .call false false 28 [(.r 13)]⟩,
    ⟨none, none, .st (.r 2) 2 0 18 3 (.r 14)⟩,
    ⟨some 3, none, .mov (.i .i64 0)⟩]) 
  (.ret))),
  [.cell 2 2 18 3, .tmp 3]⟩
theorem chk7 : chkF Tryd.prog 7 ir7 = true := by kernel_rfl
/-- vernier/resid.Product -/
def ir8 : FnIr := ⟨⟨47, 59, 59, [(3, 47, 3), (4, 50, 3), (5, 53, 3), (6, 56, 3)]⟩,
  .seq (.reg [⟨some 3, none, .box 47 3 (.r 0)⟩,
    ⟨some 4, none, .box 50 3 (.r 1)⟩,
    ⟨some 5, none, .box 53 3 (.r 2)⟩,
    ⟨some 6, none, .mk 56 [.bool false, .nil0, .int .i64 0]⟩,
    ⟨some 7, none, .mov (.i .i64 0)⟩]) 
  (.seq (.seq (.reg [⟨some 9, none, .ld (.r 3) 3 0 47 3 true⟩,
    ⟨some 10, none, .ld (.r 4) 4 0 50 3 true⟩,
    ⟨some 11, none, .ld (.r 5) 5 0 53 3 true⟩,
    ⟨some 12, none, .bsl 3 3 true [(0, 3, (.r 9)), (3, 3, (.r 10)), (6, 3, (.r 11))] [.int .i64 0, .int .i64 0, .nil0]⟩,
    ⟨some 13, none, .call false false 26 [(.r 12)]⟩,
    ⟨some 8, none, .mov (.r 13)⟩]) 
  (.seq (.reg [⟨some 14, none, .mov (.r 8)⟩,
    ⟨some 15, none, .bin false .neq (.r 14) (.i .i64 0)⟩]) 
  (.cond (.r 15)
  (.seq (.reg [⟨some 16, none, .bld [] [.bool false, .nil0, .int .i64 0]⟩,
     ⟨some 17, none, .mov (.r 8)⟩,
     ⟨none, none, .st (.r 6) 6 0 56 3 (.r 16)⟩,
     ⟨some 7, none, .mov (.r 17)⟩]) 
   (.ret))
  (.skip)))) 
  (.seq (.seq (.reg [⟨some 18, none, .fad (.r 3) 1⟩,
    ⟨some 19, none, .ld (.r 18) 3 1 48 1 false⟩,
    ⟨some 20, none, .fad (.r 4) 0⟩,
    ⟨some 21, none, .ld (.r 20) 4 0 50 1 false⟩,
    ⟨some 22, none, .bin false .neq (.r 19) (.r 21)⟩,
    ⟨some 23, none, .mov (.r 22)⟩,
    ⟨some 24, some (23, false), .fad (.r 5) 0⟩,
    ⟨some 25, some (23, false), .ld (.r 24) 5 0 53 1 false⟩,
    ⟨some 26, some (23, false), .fad (.r 3) 0⟩,
    ⟨some 27, some (23, false), .ld (.r 26) 3 0 47 1 false⟩,
    ⟨some 28, some (23, false), .bin false .neq (.r 25) (.r 27)⟩,
    ⟨some 29, none, .pick (.r 23) (.b true) (.r 28)⟩,
    ⟨some 30, none, .mov (.r 29)⟩,
    ⟨some 31, some (30, false), .fad (.r 5) 1⟩,
    ⟨some 32, some (30, false), .ld (.r 31) 5 1 54 1 false⟩,
    ⟨some 33, some (30, false), .fad (.r 4) 1⟩,
    ⟨some 34, some (30, false), .ld (.r 33) 4 1 51 1 false⟩,
    ⟨some 35, some (30, false), .bin false .neq (.r 32) (.r 34)⟩,
    ⟨some 36, none, .pick (.r 30) (.b true) (.r 35)⟩]) 
  (.cond (.r 36)
  (.seq (.reg [⟨some 37, none, .bld [] [.bool false, .nil0, .int .i64 0]⟩,
     ⟨none, none, .st (.r 6) 6 0 56 3 (.r 37)⟩,
     ⟨some 7, none, .mov (.i .i64 11)⟩]) 
   (.ret))
  (.skip))) 
  (.seq (.reg [⟨some 38, none, .ld (.r 5) 5 0 53 3 true⟩,
    ⟨some 39, none, .call false false 27 [(.r 38)]⟩,
    ⟨some 40, none, .ld (.r 3) 3 0 47 3 true⟩,
    ⟨some 41, none, .call false false 27 [(.r 40)]⟩,
    ⟨some 42, none, .ld (.r 4) 4 0 50 3 true⟩,
    ⟨some 43, none, .call false false 27 [(.r 42)]⟩,
    ⟨some 44, none, .call false false 30 [(.r 41), (.r 43)]⟩,
    ⟨some 45, none, .call false false 29 [(.r 39), (.r 44)]⟩,
    ⟨some 46, none, .call false false 28 [(.r 45)]⟩,
    ⟨none, none, .st (.r 6) 6 0 56 3 (.r 46)⟩,
    ⟨some 7, none, .mov (.i .i64 0)⟩]) 
  (.ret)))),
  [.cell 6 6 56 3, .tmp 7]⟩
theorem chk8 : chkF Tryd.prog 8 ir8 = true := by kernel_rfl
/-- vernier/resid.Times -/
def ir9 : FnIr := ⟨⟨25, 31, 31, [(2, 25, 3), (3, 28, 3)]⟩,
  .seq (.reg [⟨some 2, none, .box 25 3 (.r 0)⟩,
    ⟨some 3, none, .box 28 3 (.r 1)⟩,
    ⟨some 4, none, .mov .nil⟩,
    ⟨some 5, none, .mov (.i .i64 0)⟩]) 
  (.seq (.seq (.reg [⟨some 7, none, .ld (.r 2) 2 0 25 3 true⟩,
    ⟨some 8, none, .ld (.r 3) 3 0 28 3 true⟩,
    ⟨some 9, none, .bsl 2 3 true [(0, 3, (.r 7)), (3, 3, (.r 8))] [.int .i64 0, .int .i64 0, .nil0]⟩,
    ⟨some 10, none, .call false false 26 [(.r 9)]⟩,
    ⟨some 6, none, .mov (.r 10)⟩]) 
  (.seq (.reg [⟨some 11, none, .mov (.r 6)⟩,
    ⟨some 12, none, .bin false .neq (.r 11) (.i .i64 0)⟩]) 
  (.cond (.r 12)
  (.seq (.reg [⟨some 13, none, .mov (.r 6)⟩,
     ⟨some 4, none, .mov .nil⟩,
     ⟨some 5, none, .mov (.r 13)⟩]) 
   (.ret))
  (.skip)))) 
  (.seq (.seq (.reg [⟨some 14, none, .fad (.r 2) 1⟩,
    ⟨some 15, none, .ld (.r 14) 2 1 26 1 false⟩,
    ⟨some 16, none, .fad (.r 3) 0⟩,
    ⟨some 17, none, .ld (.r 16) 3 0 28 1 false⟩,
    ⟨some 18, none, .bin false .neq (.r 15) (.r 17)⟩]) 
  (.cond (.r 18)
  (.seq (.reg [⟨some 4, none, .mov .nil⟩,
     ⟨some 5, none, .mov (.i .i64 11)⟩]) 
   (.ret))
  (.skip))) 
  (.seq (.reg [⟨some 19, none, .ld (.r 2) 2 0 25 3 true⟩,
    ⟨some 20, none, .call false false 27 [(.r 19)]⟩,
    ⟨some 21, none, .ld (.r 3) 3 0 28 3 true⟩,
    ⟨some 22, none, .call false false 27 [(.r 21)]⟩,
    ⟨some 23, none, .call false false 30 [(.r 20), (.r 22)]⟩,
    ⟨some 24, none, .fld (.r 23) 2 1 false⟩,
    ⟨some 4, none, .mov (.r 24)⟩,
    ⟨some 5, none, .mov (.i .i64 0)⟩]) 
  (.ret)))),
  [.tmp 4, .tmp 5]⟩
theorem chk9 : chkF Tryd.prog 9 ir9 = true := by kernel_rfl
/-- vernier/vernierlaw35.finite -/
def ir10 : FnIr := ⟨⟨19, 19, 19, []⟩,
  .seq (.reg [⟨some 2, none, .mov (.i .i64 0)⟩]) 
  (.seq (.seq (.reg [⟨some 3, none, .mov (.i .i64 0)⟩]) 
  (.block 0 (.kil ⟨[4, 5, 6, 7, 8, 9, 10, 11, 12, 13, 14, 15, 16, 17, 18], [], [], []⟩ (.loop ⟨[4, 5, 6, 7, 8, 9, 10, 11, 12, 13, 14, 15, 16, 17, 18], [], [], []⟩ (.seq (.seq (.reg [⟨some 5, none, .mov (.r 3)⟩,
      ⟨some 6, none, .mov (.r 0)⟩,
      ⟨some 7, none, .len false (.r 6)⟩,
      ⟨some 8, none, .bin false .lss (.r 5) (.r 7)⟩]) 
    (.cond (.r 8)
    (.skip)
    (.exit 0))) 
    (.seq (.block 1 (.seq (.reg [⟨some 11, none, .mov (.r 0)⟩,
       ⟨some 12, none, .mov (.r 3)⟩,
       ⟨some 13, none, .eat false (.r 11) (.r 12) 3⟩,
       ⟨some 14, none, .lde false (.r 13) 3 true⟩,
       ⟨some 15, none, .call false false 31 [(.r 14)]⟩,
       ⟨some 4, none, .mov (.r 15)⟩]) 
     (.seq (.reg [⟨some 16, none, .mov (.r 4)⟩,
       ⟨some 17, none, .bin false .neq (.r 16) (.i .i64 0)⟩]) 
     (.cond (.r 17)
     (.seq (.reg [⟨some 18, none, .mov (.r 4)⟩,
        ⟨some 2, none, .mov (.r 18)⟩]) 
      (.ret))
     (.skip))))) 
    (.reg [⟨some 9, none, .mov (.r 3)⟩,
      ⟨some 10, none, .bin false .add (.r 9) (.i .i64 1)⟩,
      ⟨some 3, none, .mov (.r 10)⟩]))))))) 
  (.seq (.reg [⟨some 2, none, .mov (.i .i64 0)⟩]) 
  (.ret))),
  [.tmp 2]⟩
theorem chk10 : chkF Tryd.prog 10 ir10 = true := by kernel_rfl
/-- vernier/vernierlaw35.most -/
def ir11 : FnIr := ⟨⟨22, 31, 31, [(2, 22, 3), (3, 25, 3), (4, 28, 3)]⟩,
  .seq (.reg [⟨some 2, none, .box 22 3 (.r 0)⟩,
    ⟨some 3, none, .box 25 3 (.r 1)⟩,
    ⟨some 4, none, .mk 28 [.bool false, .nil0, .int .i64 0]⟩]) 
  (.seq (.reg [⟨some 8, none, .ld (.r 3) 3 0 25 3 true⟩,
    ⟨some 9, none, .call false false 32 [(.r 8)]⟩,
    ⟨some 7, none, .mov (.r 9)⟩,
    ⟨some 10, none, .ext (.r 7) 0⟩,
    ⟨some 11, none, .ext (.r 7) 1⟩,
    ⟨none, none, .st (.r 3) 3 0 25 3 (.r 10)⟩]) 
  (.seq (.reg [⟨some 13, none, .ld (.r 2) 2 0 22 3 true⟩,
    ⟨some 14, none, .ld (.r 3) 3 0 25 3 true⟩,
    ⟨some 15, none, .call false false 33 [(.r 13), (.r 14)]⟩,
    ⟨some 12, none, .mov (.r 15)⟩,
    ⟨some 16, none, .ext (.r 12) 0⟩,
    ⟨some 17, none, .ext (.r 12) 1⟩,
    ⟨some 5, none, .mov (.r 16)⟩,
    ⟨some 6, none, .mov (.r 17)⟩]) 
  (.seq (.seq (.reg [⟨some 18, none, .mov (.r 5)⟩,
    ⟨some 19, none, .bin false .lss (.r 18) (.i .i64 0)⟩]) 
  (.cond (.r 19)
  (.seq (.reg [⟨some 20, none, .ld (.r 3) 3 0 25 3 true⟩,
     ⟨none, none, .st (.r 4) 4 0 28 3 (.r 20)⟩]) 
   (.ret))
  (.skip))) 
  (.seq (.reg [⟨some 21, none, .ld (.r 2) 2 0 22 3 true⟩,
    ⟨none, none, .st (.r 4) 4 0 28 3 (.r 21)⟩]) 
  (.ret))))),
  [.cell 4 4 28 3]⟩
theorem chk11 : chkF Tryd.prog 11 ir11 = true := by kernel_rfl
/-- vernier/vernierlaw35.of -/
def ir12 : FnIr := ⟨⟨11, 17, 17, [(2, 11, 3), (3, 14, 3)]⟩,
  .seq (.reg [⟨some 2, none, .mk 11 [.bool false, .nil0, .int .i64 0]⟩]) 
  (.seq (.reg [⟨some 6, none, .mov (.r 0)⟩,
    ⟨some 7, none, .call false false 34 [(.r 6)]⟩,
    ⟨some 5, none, .mov (.r 7)⟩,
    ⟨some 8, none, .ext (.r 5) 0⟩,
    ⟨some 9, none, .ext (.r 5) 1⟩,
    ⟨some 3, none, .mk 14 [.bool false, .nil0, .int .i64 0]⟩,
    ⟨none, none, .st (.r 3) 3 0 14 3 (.r 8)⟩,
    ⟨some 4, none, .mov (.r 9)⟩]) 
  (.seq (.reg [⟨some 10, none, .ld (.r 3) 3 0 14 3 true⟩,
    ⟨none, none, .st (.r 2) 2 0 11 3 (.r 10)⟩]) 
  (.ret))),
  [.cell 2 2 11 3]⟩
theorem chk12 : chkF Tryd.prog 12 ir12 = true := by kernel_rfl
/-- vernier/vernierlaw35.far -/
def ir13 : FnIr := ⟨⟨29, 41, 41, [(2, 29, 3), (3, 32, 3), (4, 35, 3), (5, 38, 3)]⟩,
  .seq (.reg [⟨some 2, none, .box 29 3 (.r 0)⟩,
    ⟨some 3, none, .box 32 3 (.r 1)⟩,
    ⟨some 4, none, .mk 35 [.bool false, .nil0, .int .i64 0]⟩]) 
  (.seq (.reg [⟨some 7, none, .bld [] [.bool false, .nil0, .int .i64 0]⟩,
    ⟨some 5, none, .mk 38 [.bool false, .nil0, .int .i64 0]⟩,
    ⟨none, none, .st (.r 5) 5 0 38 3 (.r 7)⟩]) 
  (.seq (.seq (.reg [⟨some 6, none, .mov (.i .i64 0)⟩]) 
  (.block 0 (.kil ⟨[8, 9, 10, 11, 12, 13, 14, 15, 16, 17, 18, 19, 20, 21, 22, 23, 24, 25, 26, 27], [], [], []⟩ (.loop ⟨[8, 9, 10, 11, 12, 13, 14, 15, 16, 17, 18, 19, 20, 21, 22, 23, 24, 25, 26, 27], [], [], []⟩ (.seq (.seq (.reg [⟨some 8, none, .mov (.r 6)⟩,
      ⟨some 9, none, .fad (.r 2) 2⟩,
      ⟨some 10, none, .ld (.r 9) 2 2 31 1 false⟩,
      ⟨some 11, none, .len false (.r 10)⟩,
      ⟨some 12, none, .bin false .lss (.r 8) (.r 11)⟩]) 
    (.cond (.r 12)
    (.skip)
    (.exit 0))) 
    (.seq (.block 1 (.reg [⟨some 15, none, .ld (.r 5) 5 0 38 3 true⟩,
       ⟨some 16, none, .fad (.r 2) 2⟩,
       ⟨some 17, none, .ld (.r 16) 2 2 31 1 false⟩,
       ⟨some 18, none, .mov (.r 6)⟩,
       ⟨some 19, none, .eat false (.r 17) (.r 18) 3⟩,
       ⟨some 20, none, .lde false (.r 19) 3 true⟩,
       ⟨some 21, none, .fad (.r 3) 2⟩,
       ⟨some 22, none, .ld (.r 21) 3 2 34 1 false⟩,
       ⟨some 23, none, .mov (.r 6)⟩,
       ⟨some 24, none, .eat false (.r 22) (.r 23) 3⟩,
       ⟨some 25, none, .lde false (.r 24) 3 true⟩,
       ⟨some 26, none, .call false false 21 [(.r 20), (.r 25)]⟩,
       ⟨some 27, none, .call false false 11 [(.r 15), (.r 26)]⟩,
       ⟨none, none, .st (.r 5) 5 0 38 3 (.r 27)⟩])) 
    (.reg [⟨some 13, none, .mov (.r 6)⟩,
      ⟨some 14, none, .bin false .add (.r 13) (.i .i64 1)⟩,
      ⟨some 6, none, .mov (.r 14)⟩]))))))) 
  (.seq (.reg [⟨some 28, none, .ld (.r 5) 5 0 38 3 true⟩,
    ⟨none, none, .st (.r 4) 4 0 35 3 (.r 28)⟩]) 
  (.ret)))),
  [.cell 4 4 35 3]⟩
theorem chk13 : chkF Tryd.prog 13 ir13 = true := by kernel_rfl
/-- vernier/vernierlaw35.exact -/
def ir14 : FnIr := ⟨⟨29, 38, 39, [(1, 29, 3), (2, 32, 3), (3, 35, 3)]⟩,
  .seq (.reg [⟨some 1, none, .box 29 3 (.r 0)⟩,
    ⟨some 2, none, .mk 32 [.int .i64 0, .int .i64 0, .nil0]⟩]) 
  (.seq (.reg [⟨some 5, none, .fad (.r 1) 0⟩,
    ⟨some 6, none, .ld (.r 5) 1 0 29 1 false⟩,
    ⟨some 7, none, .fad (.r 1) 1⟩,
    ⟨some 8, none, .ld (.r 7) 1 1 30 1 false⟩,
    ⟨some 9, none, .bld [(0, 1, (.r 6)), (1, 1, (.r 8)), (2, 1, .nil)] [.int .i64 0, .int .i64 0, .nil0]⟩,
    ⟨some 3, none, .mk 35 [.int .i64 0, .int .i64 0, .nil0]⟩,
    ⟨none, none, .st (.r 3) 3 0 35 3 (.r 9)⟩]) 
  (.seq (.seq (.reg [⟨some 4, none, .mov (.i .i64 0)⟩]) 
  (.block 0 (.kil ⟨[10, 11, 12, 13, 14, 15, 16, 17, 18, 19, 20, 21, 22, 23, 24, 25, 26, 27], [], [], []⟩ (.loop ⟨[10, 11, 12, 13, 14, 15, 16, 17, 18, 19, 20, 21, 22, 23, 24, 25, 26, 27], [], [], []⟩ (.seq (.seq (.reg [⟨some 10, none, .mov (.r 4)⟩,
      ⟨some 11, none, .fad (.r 1) 2⟩,
      ⟨some 12, none, .ld (.r 11) 1 2 31 1 false⟩,
      ⟨some 13, none, .len false (.r 12)⟩,
      ⟨some 14, none, .bin false .lss (.r 10) (.r 13)⟩]) 
    (.cond (.r 14)
    (.skip)
    (.exit 0))) 
    (.seq (.block 1 (.reg [⟨some 17, none, .fad (.r 3) 2⟩,
       ⟨some 18, none, .ld (.r 17) 3 2 37 1 false⟩,
       ⟨some 19, none, .fad (.r 1) 2⟩,
       ⟨some 20, none, .ld (.r 19) 1 2 31 1 false⟩,
       ⟨some 21, none, .mov (.r 4)⟩,
       ⟨some 22, none, .eat false (.r 20) (.r 21) 1⟩,
       ⟨some 23, none, .lde false (.r 22) 1 false⟩,
       ⟨some 24, none, .call false false 12 [(.r 23)]⟩,
       ⟨some 25, none, .bsl 1 3 true [(0, 3, (.r 24))] [.bool false, .nil0, .int .i64 0]⟩,
       ⟨some 26, none, .app (.r 18) (.r 25) 0 3 40 27⟩,
       ⟨some 27, none, .fad (.r 3) 2⟩,
       ⟨none, none, .st (.r 27) 3 2 37 1 (.r 26)⟩])) 
    (.reg [⟨some 15, none, .mov (.r 4)⟩,
      ⟨some 16, none, .bin false .add (.r 15) (.i .i64 1)⟩,
      ⟨some 4, none, .mov (.r 16)⟩]))))))) 
  (.seq (.reg [⟨some 28, none, .ld (.r 3) 3 0 35 3 true⟩,
    ⟨none, none, .st (.r 2) 2 0 32 3 (.r 28)⟩]) 
  (.ret)))),
  [.cell 2 2 32 3]⟩
theorem chk14 : chkF Tryd.prog 14 ir14 = true := by kernel_rfl
/-- vernier/vernierlaw35.times -/
def ir15 : FnIr := ⟨⟨70, 85, 86, [(2, 70, 3), (3, 73, 3), (4, 76, 3), (5, 79, 3), (8, 82, 3)]⟩,
  .seq (.reg [⟨some 2, none, .box 70 3 (.r 0)⟩,
    ⟨some 3, none, .box 73 3 (.r 1)⟩,
    ⟨some 4, none, .mk 76 [.int .i64 0, .int .i64 0, .nil0]⟩]) 
  (.seq (.reg [⟨some 10, none, .fad (.r 2) 0⟩,
    ⟨some 11, none, .ld (.r 10) 2 0 70 1 false⟩,
    ⟨some 12, none, .fad (.r 3) 1⟩,
    ⟨some 13, none, .ld (.r 12) 3 1 74 1 false⟩,
    ⟨some 14, none, .bld [(0, 1, (.r 11)), (1, 1, (.r 13)), (2, 1, .nil)] [.int .i64 0, .int .i64 0, .nil0]⟩,
    ⟨some 5, none, .mk 79 [.int .i64 0, .int .i64 0, .nil0]⟩,
    ⟨none, none, .st (.r 5) 5 0 79 3 (.r 14)⟩]) 
  (.seq (.seq (.reg [⟨some 6, none, .mov (.i .i64 0)⟩]) 
  (.block 0 (.kil ⟨[7, 8, 9, 15, 16, 17, 18, 19, 20, 21, 22, 23, 24, 25, 26, 27, 28, 29, 30, 31, 32, 33, 34, 35, 36, 37, 38, 39, 40, 41, 42, 43, 44, 45, 46, 47, 48, 49, 50, 51, 52, 53, 54, 55, 56, 57, 58, 59, 60, 61, 62, 63, 64, 65, 66, 67, 68, 82, 83, 84], [8], [], []⟩ (.loop ⟨[7, 8, 9, 15, 16, 17, 18, 19, 20, 21, 22, 23, 24, 25, 26, 27, 28, 29, 30, 31, 32, 33, 34, 35, 36, 37, 38, 39, 40, 41, 42, 43, 44, 45, 46, 47, 48, 49, 50, 51, 52, 53, 54, 55, 56, 57, 58, 59, 60, 61, 62, 63, 64, 65, 66, 67, 68, 82, 83, 84], [8], [], []⟩ (.seq (.seq (.reg [⟨some 15, none, .mov (.r 6)⟩,
      ⟨some 16, none, .fad (.r 2) 0⟩,
      ⟨some 17, none, .ld (.r 16) 2 0 70 1 false⟩,
      ⟨some 18, none, .bin false .lss (.r 15) (.r 17)⟩]) 
    (.cond (.r 18)
    (.skip)
    (.exit 0))) 
    (.seq (.block 1 (.seq (.reg [⟨some 7, none, .mov (.i .i64 0)⟩]) 
     (.block 2 (.kil ⟨[8, 9, 21, 22, 23, 24, 25, 26, 27, 28, 29, 30, 31, 32, 33, 34, 35, 36, 37, 38, 39, 40, 41, 42, 43, 44, 45, 46, 47, 48, 49, 50, 51, 52, 53, 54, 55, 56, 57, 58, 59, 60, 61, 62, 63, 64, 65, 66, 67, 68, 82, 83, 84], [8], [], []⟩ (.loop ⟨[8, 9, 21, 22, 23, 24, 25, 26, 27, 28, 29, 30, 31, 32, 33, 34, 35, 36, 37, 38, 39, 40, 41, 42, 43, 44, 45, 46, 47, 48, 49, 50, 51, 52, 53, 54, 55, 56, 57, 58, 59, 60, 61, 62, 63, 64, 65, 66, 67, 68, 82, 83, 84], [8], [], []⟩ (.seq (.seq (.reg [⟨some 21, none, .mov (.r 7)⟩,
         ⟨some 22, none, .fad (.r 3) 1⟩,
         ⟨some 23, none, .ld (.r 22) 3 1 74 1 false⟩,
         ⟨some 24, none, .bin false .lss (.r 21) (.r 23)⟩]) 
       (.cond (.r 24)
       (.skip)
       (.exit 2))) 
       (.seq (.block 3 (.seq (.reg [⟨some 27, none, .bld [] [.bool false, .nil0, .int .i64 0]⟩,
          ⟨some 8, none, .mk 82 [.bool false, .nil0, .int .i64 0]⟩,
          ⟨none, none, .st (.r 8) 8 0 82 3 (.r 27)⟩]) 
        (.seq (.seq (.reg [⟨some 9, none, .mov (.i .i64 0)⟩]) 
        (.block 4 (.kil ⟨[28, 29, 30, 31, 32, 33, 34, 35, 36, 37, 38, 39, 40, 41, 42, 43, 44, 45, 46, 47, 48, 49, 50, 51, 52, 53, 54, 55, 56, 57, 58, 59, 60, 61, 62], [], [], []⟩ (.loop ⟨[28, 29, 30, 31, 32, 33, 34, 35, 36, 37, 38, 39, 40, 41, 42, 43, 44, 45, 46, 47, 48, 49, 50, 51, 52, 53, 54, 55, 56, 57, 58, 59, 60, 61, 62], [], [], []⟩ (.seq (.seq (.reg [⟨some 28, none, .mov (.r 9)⟩,
            ⟨some 29, none, .fad (.r 2) 1⟩,
            ⟨some 30, none, .ld (.r 29) 2 1 71 1 false⟩,
            ⟨some 31, none, .bin false .lss (.r 28) (.r 30)⟩,
            ⟨some 32, none, .mov (.r 31)⟩,
            ⟨some 33, some (32, true), .mov (.r 9)⟩,
            ⟨some 34, some (32, true), .fad (.r 3) 0⟩,
            ⟨some 35, some (32, true), .ld (.r 34) 3 0 73 1 false⟩,
            ⟨some 36, some (32, true), .bin false .lss (.r 33) (.r 35)⟩,
            ⟨some 37, none, .pick (.r 32) (.r 36) (.b false)⟩]) 
          (.cond (.r 37)
          (.skip)
          (.exit 4))) 
          (.seq (.block 5 (.reg [⟨some 40, none, .ld (.r 8) 8 0 82 3 true⟩,
             ⟨some 41, none, .fad (.r 2) 2⟩,
             ⟨some 42, none, .ld (.r 41) 2 2 72 1 false⟩,
             ⟨some 43, none, .mov (.r 6)⟩,
             ⟨some 44, none, .fad (.r 2) 1⟩,
             ⟨some 45, none, .ld (.r 44) 2 1 71 1 false⟩,
             ⟨some 46, none, .bin false .mul (.r 43) (.r 45)⟩,
             ⟨some 47, none, .mov (.r 9)⟩,
             ⟨some 48, none, .bin false .add (.r 46) (.r 47)⟩,
             ⟨some 49, none, .eat false (.r 42) (.r 48) 3⟩,
             ⟨some 50, none, .lde false (.r 49) 3 true⟩,
             ⟨some 51, none, .fad (.r 3) 2⟩,
             ⟨some 52, none, .ld (.r 51) 3 2 75 1 false⟩,
             ⟨some 53, none, .mov (.r 9)⟩,
             ⟨some 54, none, .fad (.r 3) 1⟩,
             ⟨some 55, none, .ld (.r 54) 3 1 74 1 false⟩,
             ⟨some 56, none, .bin false .mul (.r 53) (.r 55)⟩,
             ⟨some 57, none, .mov (.r 7)⟩,
             ⟨some 58, none, .bin false .add (.r 56) (.r 57)⟩,
             ⟨some 59, none, .eat false (.r 52) (.r 58) 3⟩,
             ⟨some 60, none, .lde false (.r 59) 3 true⟩,
             ⟨some 61, none, .call false false 36 [(.r 50), (.r 60)]⟩,
             ⟨some 62, none, .call false false 35 [(.r 40), (.r 61)]⟩,
             ⟨none, none, .st (.r 8) 8 0 82 3 (.r 62)⟩])) 
          (.reg [⟨some 38, none, .mov (.r 9)⟩,
            ⟨some 39, none, .bin false .add (.r 38) (.i .i64 1)⟩,
            ⟨some 9, none, .mov (.r 39)⟩]))))))) 
        (.reg [⟨some 63, none, .fad (.r 5) 2⟩,
          ⟨some 64, none, .ld (.r 63) 5 2 81 1 false⟩,
          ⟨some 65, none, .ld (.r 8) 8 0 82 3 true⟩,
          ⟨some 66, none, .bsl 1 3 true [(0, 3, (.r 65))] [.bool false, .nil0, .int .i64 0]⟩,
          ⟨some 67, none, .app (.r 64) (.r 66) 0 3 40 27⟩,
          ⟨some 68, none, .fad (.r 5) 2⟩,
          ⟨none, none, .st (.r 68) 5 2 81 1 (.r 67)⟩])))) 
       (.reg [⟨some 25, none, .mov (.r 7)⟩,
         ⟨some 26, none, .bin false .add (.r 25) (.i .i64 1)⟩,
         ⟨some 7, none, .mov (.r 26)⟩])))))))) 
    (.reg [⟨some 19, none, .mov (.r 6)⟩,
      ⟨some 20, none, .bin false .add (.r 19) (.i .i64 1)⟩,
      ⟨some 6, none, .mov (.r 20)⟩]))))))) 
  (.seq (.reg [⟨some 69, none, .ld (.r 5) 5 0 79 3 true⟩,
    ⟨none, none, .st (.r 4) 4 0 76 3 (.r 69)⟩]) 
  (.ret)))),
  [.cell 4 4 76 3]⟩
theorem chk15 : chkF Tryd.prog 15 ir15 = true := by kernel_rfl
/-- vernier/vernierlaw35.is -/
def ir16 : FnIr := ⟨⟨41, 47, 47, [(5, 41, 3), (9, 44, 3)]⟩,
  .seq (.reg [⟨some 5, none, .box 41 3 (.r 0)⟩,
    ⟨some 9, none, .box 44 3 (.r 4)⟩,
    ⟨some 10, none, .mov (.b false)⟩]) 
  (.seq (.block 0 (.seq (.reg [⟨some 12, none, .mov (.r 2)⟩,
     ⟨some 13, none, .bin false .neq (.r 12) (.i .i64 0)⟩,
     ⟨some 11, none, .mov (.r 13)⟩]) 
   (.cond (.r 11)
   (.seq (.reg [⟨some 14, none, .mov (.r 1)⟩,
      ⟨some 15, none, .mov (.r 2)⟩,
      ⟨some 16, none, .bin false .eql (.r 14) (.r 15)⟩,
      ⟨some 17, none, .mov (.r 16)⟩,
      ⟨some 18, some (17, true), .fad (.r 5) 1⟩,
      ⟨some 19, some (17, true), .ld (.r 18) 5 1 42 1 false⟩,
      ⟨some 20, some (17, true), .len false (.r 19)⟩,
      ⟨some 21, some (17, true), .bin false .eql (.r 20) (.i .i64 0)⟩,
      ⟨some 22, none, .pick (.r 17) (.r 21) (.b false)⟩,
      ⟨some 10, none, .mov (.r 22)⟩]) 
    (.ret))
   (.seq (.reg [⟨some 24, none, .mov (.r 3)⟩,
      ⟨some 25, none, .un .not (.r 24)⟩,
      ⟨some 23, none, .mov (.r 25)⟩]) 
    (.cond (.r 23)
    (.seq (.reg [⟨some 26, none, .mov (.r 1)⟩,
       ⟨some 27, none, .bin false .eql (.r 26) (.i .i64 11)⟩,
       ⟨some 28, none, .mov (.r 27)⟩,
       ⟨some 29, some (28, true), .fad (.r 5) 1⟩,
       ⟨some 30, some (28, true), .ld (.r 29) 5 1 42 1 false⟩,
       ⟨some 31, some (28, true), .len false (.r 30)⟩,
       ⟨some 32, some (28, true), .bin false .eql (.r 31) (.i .i64 0)⟩,
       ⟨some 33, none, .pick (.r 28) (.r 32) (.b false)⟩,
       ⟨some 10, none, .mov (.r 33)⟩]) 
     (.ret))
    (.skip)))))) 
  (.seq (.reg [⟨some 34, none, .mov (.r 1)⟩,
    ⟨some 35, none, .bin false .eql (.r 34) (.i .i64 0)⟩,
    ⟨some 36, none, .mov (.r 35)⟩,
    ⟨some 37, some (36, true), .ld (.r 5) 5 0 41 3 true⟩,
    ⟨some 38, some (36, true), .ld (.r 9) 9 0 44 3 true⟩,
    ⟨some 39, some (36, true), .call false false 17 [(.r 37), (.r 38)]⟩,
    ⟨some 40, none, .pick (.r 36) (.r 39) (.b false)⟩,
    ⟨some 10, none, .mov (.r 40)⟩]) 
  (.ret))),
  [.tmp 10]⟩
theorem chk16 : chkF Tryd.prog 16 ir16 = true := by kernel_rfl
/-- vernier/vernierlaw35.same -/
def ir17 : FnIr := ⟨⟨24, 30, 30, [(2, 24, 3), (3, 27, 3)]⟩,
  .seq (.reg [⟨some 2, none, .box 24 3 (.r 0)⟩,
    ⟨some 3, none, .box 27 3 (.r 1)⟩,
    ⟨some 4, none, .mov (.b false)⟩]) 
  (.seq (.reg [⟨some 5, none, .fad (.r 2) 0⟩,
    ⟨some 6, none, .ld (.r 5) 2 0 24 1 false⟩,
    ⟨some 7, none, .fad (.r 3) 0⟩,
    ⟨some 8, none, .ld (.r 7) 3 0 27 1 false⟩,
    ⟨some 9, none, .bin true .eql (.r 6) (.r 8)⟩,
    ⟨some 10, none, .mov (.r 9)⟩,
    ⟨some 11, some (10, true), .fad (.r 2) 2⟩,
    ⟨some 12, some (10, true), .ld (.r 11) 2 2 26 1 false⟩,
    ⟨some 13, some (10, true), .fad (.r 3) 2⟩,
    ⟨some 14, some (10, true), .ld (.r 13) 3 2 29 1 false⟩,
    ⟨some 15, some (10, true), .bin false .eql (.r 12) (.r 14)⟩,
    ⟨some 16, none, .pick (.r 10) (.r 15) (.b false)⟩,
    ⟨some 17, none, .mov (.r 16)⟩,
    ⟨some 18, some (17, true), .fad (.r 2) 1⟩,
    ⟨some 19, some (17, true), .ld (.r 18) 2 1 25 1 false⟩,
    ⟨some 20, some (17, true), .fad (.r 3) 1⟩,
    ⟨some 21, some (17, true), .ld (.r 20) 3 1 28 1 false⟩,
    ⟨some 22, some (17, true), .call false false 37 [(.r 19), (.r 21)]⟩,
    ⟨some 23, none, .pick (.r 17) (.r 22) (.b false)⟩,
    ⟨some 4, none, .mov (.r 23)⟩]) 
  (.ret)),
  [.tmp 4]⟩
theorem chk17 : chkF Tryd.prog 17 ir17 = true := by kernel_rfl
/-- vernier/resid.Qr -/
def ir18 : FnIr := ⟨⟨102, 126, 126, [(4, 102, 3), (5, 105, 3), (6, 108, 3), (7, 111, 3), (8, 114, 3), (9, 117, 3), (14, 120, 3), (15, 123, 3)]⟩,
  .seq (.reg [⟨some 4, none, .box 102 3 (.r 0)⟩,
    ⟨some 5, none, .box 105 3 (.r 1)⟩,
    ⟨some 6, none, .box 108 3 (.r 2)⟩,
    ⟨some 7, none, .box 111 3 (.r 3)⟩,
    ⟨some 8, none, .mk 114 [.bool false, .nil0, .int .i64 0]⟩,
    ⟨some 9, none, .mk 117 [.bool false, .nil0, .int .i64 0]⟩,
    ⟨some 10, none, .mov (.i .i64 0)⟩]) 
  (.seq (.seq (.reg [⟨some 16, none, .ld (.r 4) 4 0 102 3 true⟩,
    ⟨some 17, none, .ld (.r 5) 5 0 105 3 true⟩,
    ⟨some 18, none, .ld (.r 6) 6 0 108 3 true⟩,
    ⟨some 19, none, .ld (.r 7) 7 0 111 3 true⟩,
    ⟨some 20, none, .bsl 4 3 true [(0, 3, (.r 16)), (3, 3, (.r 17)), (6, 3, (.r 18)), (9, 3, (.r 19))] [.int .i64 0, .int .i64 0, .nil0]⟩,
    ⟨some 21, none, .call false false 26 [(.r 20)]⟩,
    ⟨some 11, none, .mov (.r 21)⟩]) 
  (.seq (.reg [⟨some 22, none, .mov (.r 11)⟩,
    ⟨some 23, none, .bin false .neq (.r 22) (.i .i64 0)⟩]) 
  (.cond (.r 23)
  (.seq (.reg [⟨some 24, none, .bld [] [.bool false, .nil0, .int .i64 0]⟩,
     ⟨some 25, none, .bld [] [.bool false, .nil0, .int .i64 0]⟩,
     ⟨some 26, none, .mov (.r 11)⟩,
     ⟨none, none, .st (.r 8) 8 0 114 3 (.r 24)⟩,
     ⟨none, none, .st (.r 9) 9 0 117 3 (.r 25)⟩,
     ⟨some 10, none, .mov (.r 26)⟩]) 
   (.ret))
  (.skip)))) 
  (.seq (.reg [⟨some 27, none, .fad (.r 4) 1⟩,
    ⟨some 28, none, .ld (.r 27) 4 1 103 1 false⟩,
    ⟨some 12, none, .mov (.r 28)⟩]) 
  (.seq (.seq (.reg [⟨some 29, none, .fad (.r 5) 0⟩,
    ⟨some 30, none, .ld (.r 29) 5 0 105 1 false⟩,
    ⟨some 31, none, .fad (.r 4) 0⟩,
    ⟨some 32, none, .ld (.r 31) 4 0 102 1 false⟩,
    ⟨some 33, none, .bin false .neq (.r 30) (.r 32)⟩,
    ⟨some 34, none, .mov (.r 33)⟩,
    ⟨some 35, some (34, false), .fad (.r 5) 1⟩,
    ⟨some 36, some (34, false), .ld (.r 35) 5 1 106 1 false⟩,
    ⟨some 37, some (34, false), .mov (.r 12)⟩,
    ⟨some 38, some (34, false), .bin false .neq (.r 36) (.r 37)⟩,
    ⟨some 39, none, .pick (.r 34) (.b true) (.r 38)⟩,
    ⟨some 40, none, .mov (.r 39)⟩,
    ⟨some 41, some (40, false), .fad (.r 6) 0⟩,
    ⟨some 42, some (40, false), .ld (.r 41) 6 0 108 1 false⟩,
    ⟨some 43, some (40, false), .mov (.r 12)⟩,
    ⟨some 44, some (40, false), .bin false .neq (.r 42) (.r 43)⟩,
    ⟨some 45, none, .pick (.r 40) (.b true) (.r 44)⟩,
    ⟨some 46, none, .mov (.r 45)⟩,
    ⟨some 47, some (46, false), .fad (.r 6) 1⟩,
    ⟨some 48, some (46, false), .ld (.r 47) 6 1 109 1 false⟩,
    ⟨some 49, some (46, false), .mov (.r 12)⟩,
    ⟨some 50, some (46, false), .bin false .neq (.r 48) (.r 49)⟩,
    ⟨some 51, none, .pick (.r 46) (.b true) (.r 50)⟩,
    ⟨some 52, none, .mov (.r 51)⟩,
    ⟨some 53, some (52, false), .fad (.r 7) 0⟩,
    ⟨some 54, some (52, false), .ld (.r 53) 7 0 111 1 false⟩,
    ⟨some 55, some (52, false), .mov (.r 12)⟩,
    ⟨some 56, some (52, false), .bin false .neq (.r 54) (.r 55)⟩,
    ⟨some 57, none, .pick (.r 52) (.b true) (.r 56)⟩,
    ⟨some 58, none, .mov (.r 57)⟩,
    ⟨some 59, some (58, false), .fad (.r 7) 1⟩,
    ⟨some 60, some (58, false), .ld (.r 59) 7 1 112 1 false⟩,
    ⟨some 61, some (58, false), .mov (.r 12)⟩,
    ⟨some 62, some (58, false), .bin false .neq (.r 60) (.r 61)⟩,
    ⟨some 63, none, .pick (.r 58) (.b true) (.r 62)⟩,
    ⟨some 64, none, .mov (.r 63)⟩,
    ⟨some 65, some (64, false), .fad (.r 4) 0⟩,
    ⟨some 66, some (64, false), .ld (.r 65) 4 0 102 1 false⟩,
    ⟨some 67, some (64, false), .mov (.r 12)⟩,
    ⟨some 68, some (64, false), .bin false .lss (.r 66) (.r 67)⟩,
    ⟨some 69, none, .pick (.r 64) (.b true) (.r 68)⟩]) 
  (.cond (.r 69)
  (.seq (.reg [⟨some 70, none, .bld [] [.bool false, .nil0, .int .i64 0]⟩,
     ⟨some 71, none, .bld [] [.bool false, .nil0, .int .i64 0]⟩,
     ⟨none, none, .st (.r 8) 8 0 114 3 (.r 70)⟩,
     ⟨none, none, .st (.r 9) 9 0 117 3 (.r 71)⟩,
     ⟨some 10, none, .mov (.i .i64 11)⟩]) 
   (.ret))
  (.skip))) 
  (.seq (.reg [⟨some 72, none, .fad (.r 4) 0⟩,
    ⟨some 73, none, .ld (.r 72) 4 0 102 1 false⟩,
    ⟨some 13, none, .mov (.r 73)⟩]) 
  (.seq (.reg [⟨some 74, none, .ld (.r 5) 5 0 105 3 true⟩,
    ⟨some 75, none, .call false false 27 [(.r 74)]⟩,
    ⟨some 14, none, .mk 120 [.int .i64 0, .int .i64 0, .nil0]⟩,
    ⟨none, none, .st (.r 14) 14 0 120 3 (.r 75)⟩]) 
  (.seq (.reg [⟨some 76, none, .mov (.r 13)⟩,
    ⟨some 77, none, .call false false 38 [(.r 76)]⟩,
    ⟨some 78, none, .ld (.r 14) 14 0 120 3 true⟩,
    ⟨some 79, none, .ld (.r 6) 6 0 108 3 true⟩,
    ⟨some 80, none, .call false false 27 [(.r 79)]⟩,
    ⟨some 81, none, .call false false 30 [(.r 78), (.r 80)]⟩,
    ⟨some 82, none, .ld (.r 14) 14 0 120 3 true⟩,
    ⟨some 83, none, .call false false 39 [(.r 82)]⟩,
    ⟨some 84, none, .call false false 30 [(.r 81), (.r 83)]⟩,
    ⟨some 85, none, .call false false 29 [(.r 77), (.r 84)]⟩,
    ⟨some 15, none, .mk 123 [.int .i64 0, .int .i64 0, .nil0]⟩,
    ⟨none, none, .st (.r 15) 15 0 123 3 (.r 85)⟩]) 
  (.seq (.reg [⟨some 86, none, .ld (.r 4) 4 0 102 3 true⟩,
    ⟨some 87, none, .call false false 27 [(.r 86)]⟩,
    ⟨some 88, none, .ld (.r 15) 15 0 123 3 true⟩,
    ⟨some 89, none, .ld (.r 7) 7 0 111 3 true⟩,
    ⟨some 90, none, .call false false 27 [(.r 89)]⟩,
    ⟨some 91, none, .call false false 30 [(.r 88), (.r 90)]⟩,
    ⟨some 92, none, .call false false 29 [(.r 87), (.r 91)]⟩,
    ⟨some 93, none, .call false false 28 [(.r 92)]⟩,
    ⟨some 94, none, .ld (.r 15) 15 0 123 3 true⟩,
    ⟨some 95, none, .call false false 39 [(.r 94)]⟩,
    ⟨some 96, none, .ld (.r 15) 15 0 123 3 true⟩,
    ⟨some 97, none, .call false false 30 [(.r 95), (.r 96)]⟩,
    ⟨some 98, none, .mov (.r 13)⟩,
    ⟨some 99, none, .call false false 38 [(.r 98)]⟩,
    ⟨some 100, none, .call false false 29 [(.r 97), (.r 99)]⟩,
    ⟨some 101, none, .call false false 28 [(.r 100)]⟩,
    ⟨none, none, .st (.r 8) 8 0 114 3 (.r 93)⟩,
    ⟨none, none, .st (.r 9) 9 0 117 3 (.r 101)⟩,
    ⟨some 10, none, .mov (.i .i64 0)⟩]) 
  (.ret)))))))),
  [.cell 8 8 114 3, .cell 9 9 117 3, .tmp 10]⟩
theorem chk18 : chkF Tryd.prog 18 ir18 = true := by kernel_rfl
/-- vernier/vernierlaw35.turned -/
def ir19 : FnIr := ⟨⟨39, 48, 49, [(1, 39, 3), (2, 42, 3), (3, 45, 3)]⟩,
  .seq (.reg [⟨some 1, none, .box 39 3 (.r 0)⟩,
    ⟨some 2, none, .mk 42 [.int .i64 0, .int .i64 0, .nil0]⟩]) 
  (.seq (.reg [⟨some 6, none, .fad (.r 1) 1⟩,
    ⟨some 7, none, .ld (.r 6) 1 1 40 1 false⟩,
    ⟨some 8, none, .fad (.r 1) 0⟩,
    ⟨some 9, none, .ld (.r 8) 1 0 39 1 false⟩,
    ⟨some 10, none, .bld [(0, 1, (.r 7)), (1, 1, (.r 9)), (2, 1, .nil)] [.int .i64 0, .int .i64 0, .nil0]⟩,
    ⟨some 3, none, .mk 45 [.int .i64 0, .int .i64 0, .nil0]⟩,
    ⟨none, none, .st (.r 3) 3 0 45 3 (.r 10)⟩]) 
  (.seq (.seq (.reg [⟨some 4, none, .mov (.i .i64 0)⟩]) 
  (.block 0 (.kil ⟨[5, 11, 12, 13, 14, 15, 16, 17, 18, 19, 20, 21, 22, 23, 24, 25, 26, 27, 28, 29, 30, 31, 32, 33, 34, 35, 36, 37], [], [], []⟩ (.loop ⟨[5, 11, 12, 13, 14, 15, 16, 17, 18, 19, 20, 21, 22, 23, 24, 25, 26, 27, 28, 29, 30, 31, 32, 33, 34, 35, 36, 37], [], [], []⟩ (.seq (.seq (.reg [⟨some 11, none, .mov (.r 4)⟩,
      ⟨some 12, none, .fad (.r 1) 1⟩,
      ⟨some 13, none, .ld (.r 12) 1 1 40 1 false⟩,
      ⟨some 14, none, .bin false .lss (.r 11) (.r 13)⟩]) 
    (.cond (.r 14)
    (.skip)
    (.exit 0))) 
    (.seq (.block 1 (.seq (.reg [⟨some 5, none, .mov (.i .i64 0)⟩]) 
     (.block 2 (.kil ⟨[17, 18, 19, 20, 21, 22, 23, 24, 25, 26, 27, 28, 29, 30, 31, 32, 33, 34, 35, 36, 37], [], [], []⟩ (.loop ⟨[17, 18, 19, 20, 21, 22, 23, 24, 25, 26, 27, 28, 29, 30, 31, 32, 33, 34, 35, 36, 37], [], [], []⟩ (.seq (.seq (.reg [⟨some 17, none, .mov (.r 5)⟩,
         ⟨some 18, none, .fad (.r 1) 0⟩,
         ⟨some 19, none, .ld (.r 18) 1 0 39 1 false⟩,
         ⟨some 20, none, .bin false .lss (.r 17) (.r 19)⟩]) 
       (.cond (.r 20)
       (.skip)
       (.exit 2))) 
       (.seq (.block 3 (.reg [⟨some 23, none, .fad (.r 3) 2⟩,
          ⟨some 24, none, .ld (.r 23) 3 2 47 1 false⟩,
          ⟨some 25, none, .fad (.r 1) 2⟩,
          ⟨some 26, none, .ld (.r 25) 1 2 41 1 false⟩,
          ⟨some 27, none, .mov (.r 5)⟩,
          ⟨some 28, none, .fad (.r 1) 1⟩,
          ⟨some 29, none, .ld (.r 28) 1 1 40 1 false⟩,
          ⟨some 30, none, .bin false .mul (.r 27) (.r 29)⟩,
          ⟨some 31, none, .mov (.r 4)⟩,
          ⟨some 32, none, .bin false .add (.r 30) (.r 31)⟩,
          ⟨some 33, none, .eat false (.r 26) (.r 32) 3⟩,
          ⟨some 34, none, .lde false (.r 33) 3 true⟩,
          ⟨some 35, none, .bsl 1 3 true [(0, 3, (.r 34))] [.bool false, .nil0, .int .i64 0]⟩,
          ⟨some 36, none, .app (.r 24) (.r 35) 0 3 40 27⟩,
          ⟨some 37, none, .fad (.r 3) 2⟩,
          ⟨none, none, .st (.r 37) 3 2 47 1 (.r 36)⟩])) 
       (.reg [⟨some 21, none, .mov (.r 5)⟩,
         ⟨some 22, none, .bin false .add (.r 21) (.i .i64 1)⟩,
         ⟨some 5, none, .mov (.r 22)⟩])))))))) 
    (.reg [⟨some 15, none, .mov (.r 4)⟩,
      ⟨some 16, none, .bin false .add (.r 15) (.i .i64 1)⟩,
      ⟨some 4, none, .mov (.r 16)⟩]))))))) 
  (.seq (.reg [⟨some 38, none, .ld (.r 3) 3 0 45 3 true⟩,
    ⟨none, none, .st (.r 2) 2 0 42 3 (.r 38)⟩]) 
  (.ret)))),
  [.cell 2 2 42 3]⟩
theorem chk19 : chkF Tryd.prog 19 ir19 = true := by kernel_rfl
/-- vernier/vernierlaw35.unit -/
def ir20 : FnIr := ⟨⟨12, 18, 19, [(2, 12, 3), (3, 15, 3)]⟩,
  .seq (.reg [⟨some 2, none, .mk 12 [.int .i64 0, .int .i64 0, .nil0]⟩]) 
  (.seq (.reg [⟨some 6, none, .mov (.r 0)⟩,
    ⟨some 7, none, .call false false 40 [(.r 6)]⟩,
    ⟨some 5, none, .mov (.r 7)⟩,
    ⟨some 8, none, .ext (.r 5) 0⟩,
    ⟨some 9, none, .ext (.r 5) 1⟩,
    ⟨some 3, none, .mk 15 [.int .i64 0, .int .i64 0, .nil0]⟩,
    ⟨none, none, .st (.r 3) 3 0 15 3 (.r 8)⟩,
    ⟨some 4, none, .mov (.r 9)⟩]) 
  (.seq (.reg [⟨some 10, none, .ld (.r 3) 3 0 15 3 true⟩,
    ⟨some 11, none, .callf 0 14 [(.r 10)]⟩,
    ⟨none, none, .st (.r 2) 2 0 12 3 (.r 11)⟩]) 
  (.ret))),
  [.cell 2 2 12 3]⟩
theorem chk20 : chkF Tryd.prog 20 ir20 = true := by kernel_rfl
/-- vernier/vernierlaw35.sub -/
def ir21 : FnIr := ⟨⟨14, 26, 26, [(2, 14, 3), (3, 17, 3), (4, 20, 3), (5, 23, 3)]⟩,
  .seq (.reg [⟨some 2, none, .box 14 3 (.r 0)⟩,
    ⟨some 3, none, .box 17 3 (.r 1)⟩,
    ⟨some 4, none, .mk 20 [.bool false, .nil0, .int .i64 0]⟩]) 
  (.seq (.reg [⟨some 8, none, .ld (.r 2) 2 0 14 3 true⟩,
    ⟨some 9, none, .ld (.r 3) 3 0 17 3 true⟩,
    ⟨some 10, none, .call false false 41 [(.r 8), (.r 9)]⟩,
    ⟨some 7, none, .mov (.r 10)⟩,
    ⟨some 11, none, .ext (.r 7) 0⟩,
    ⟨some 12, none, .ext (.r 7) 1⟩,
    ⟨some 5, none, .mk 23 [.bool false, .nil0, .int .i64 0]⟩,
    ⟨none, none, .st (.r 5) 5 0 23 3 (.r 11)⟩,
    ⟨some 6, none, .mov (.r 12)⟩]) 
  (.seq (.reg [⟨some 13, none, .ld (.r 5) 5 0 23 3 true⟩,
    ⟨none, none, .st (.r 4) 4 0 20 3 (.r 13)⟩]) 
  (.ret))),
  [.cell 4 4 20 3]⟩
theorem chk21 : chkF Tryd.prog 21 ir21 = true := by kernel_rfl
/-- vernier/resid.Chol -/
def ir23 : FnIr := ⟨⟨46, 58, 58, [(2, 46, 3), (3, 49, 3), (4, 52, 3), (7, 55, 3)]⟩,
  .seq (.reg [⟨some 2, none, .box 46 3 (.r 0)⟩,
    ⟨some 3, none, .box 49 3 (.r 1)⟩,
    ⟨some 4, none, .mk 52 [.bool false, .nil0, .int .i64 0]⟩,
    ⟨some 5, none, .mov (.i .i64 0)⟩]) 
  (.seq (.seq (.reg [⟨some 8, none, .ld (.r 2) 2 0 46 3 true⟩,
    ⟨some 9, none, .ld (.r 3) 3 0 49 3 true⟩,
    ⟨some 10, none, .bsl 2 3 true [(0, 3, (.r 8)), (3, 3, (.r 9))] [.int .i64 0, .int .i64 0, .nil0]⟩,
    ⟨some 11, none, .call false false 26 [(.r 10)]⟩,
    ⟨some 6, none, .mov (.r 11)⟩]) 
  (.seq (.reg [⟨some 12, none, .mov (.r 6)⟩,
    ⟨some 13, none, .bin false .neq (.r 12) (.i .i64 0)⟩]) 
  (.cond (.r 13)
  (.seq (.reg [⟨some 14, none, .bld [] [.bool false, .nil0, .int .i64 0]⟩,
     ⟨some 15, none, .mov (.r 6)⟩,
     ⟨none, none, .st (.r 4) 4 0 52 3 (.r 14)⟩,
     ⟨some 5, none, .mov (.r 15)⟩]) 
   (.ret))
  (.skip)))) 
  (.seq (.seq (.reg [⟨some 16, none, .fad (.r 2) 0⟩,
    ⟨some 17, none, .ld (.r 16) 2 0 46 1 false⟩,
    ⟨some 18, none, .fad (.r 2) 1⟩,
    ⟨some 19, none, .ld (.r 18) 2 1 47 1 false⟩,
    ⟨some 20, none, .bin false .neq (.r 17) (.r 19)⟩,
    ⟨some 21, none, .mov (.r 20)⟩,
    ⟨some 22, some (21, false), .fad (.r 3) 0⟩,
    ⟨some 23, some (21, false), .ld (.r 22) 3 0 49 1 false⟩,
    ⟨some 24, some (21, false), .fad (.r 2) 0⟩,
    ⟨some 25, some (21, false), .ld (.r 24) 2 0 46 1 false⟩,
    ⟨some 26, some (21, false), .bin false .neq (.r 23) (.r 25)⟩,
    ⟨some 27, none, .pick (.r 21) (.b true) (.r 26)⟩,
    ⟨some 28, none, .mov (.r 27)⟩,
    ⟨some 29, some (28, false), .fad (.r 3) 1⟩,
    ⟨some 30, some (28, false), .ld (.r 29) 3 1 50 1 false⟩,
    ⟨some 31, some (28, false), .fad (.r 2) 0⟩,
    ⟨some 32, some (28, false), .ld (.r 31) 2 0 46 1 false⟩,
    ⟨some 33, some (28, false), .bin false .neq (.r 30) (.r 32)⟩,
    ⟨some 34, none, .pick (.r 28) (.b true) (.r 33)⟩]) 
  (.cond (.r 34)
  (.seq (.reg [⟨some 35, none, .bld [] [.bool false, .nil0, .int .i64 0]⟩,
     ⟨none, none, .st (.r 4) 4 0 52 3 (.r 35)⟩,
     ⟨some 5, none, .mov (.i .i64 11)⟩]) 
   (.ret))
  (.skip))) 
  (.seq (.reg [⟨some 36, none, .ld (.r 3) 3 0 49 3 true⟩,
    ⟨some 37, none, .call false false 27 [(.r 36)]⟩,
    ⟨some 7, none, .mk 55 [.int .i64 0, .int .i64 0, .nil0]⟩,
    ⟨none, none, .st (.r 7) 7 0 55 3 (.r 37)⟩]) 
  (.seq (.reg [⟨some 38, none, .ld (.r 2) 2 0 46 3 true⟩,
    ⟨some 39, none, .call false false 27 [(.r 38)]⟩,
    ⟨some 40, none, .ld (.r 7) 7 0 55 3 true⟩,
    ⟨some 41, none, .ld (.r 7) 7 0 55 3 true⟩,
    ⟨some 42, none, .call false false 39 [(.r 41)]⟩,
    ⟨some 43, none, .call false false 30 [(.r 40), (.r 42)]⟩,
    ⟨some 44, none, .call false false 29 [(.r 39), (.r 43)]⟩,
    ⟨some 45, none, .call false false 28 [(.r 44)]⟩,
    ⟨none, none, .st (.r 4) 4 0 52 3 (.r 45)⟩,
    ⟨some 5, none, .mov (.i .i64 0)⟩]) 
  (.ret))))),
  [.cell 4 4 52 3, .tmp 5]⟩
theorem chk23 : chkF Tryd.prog 23 ir23 = true := by kernel_rfl
/-- vernier/lu.Split -/
def ir25 : FnIr := ⟨⟨47, 65, 65, [(1, 47, 3), (2, 50, 3), (3, 53, 3), (6, 56, 3), (8, 59, 3), (10, 62, 3)]⟩,
  .seq (.reg [⟨some 1, none, .box 47 3 (.r 0)⟩,
    ⟨some 2, none, .mk 50 [.int .i64 0, .int .i64 0, .nil0]⟩,
    ⟨some 3, none, .mk 53 [.int .i64 0, .int .i64 0, .nil0]⟩,
    ⟨some 4, none, .mov (.i .i64 0)⟩]) 
  (.seq (.seq (.reg [⟨some 12, none, .ld (.r 1) 1 0 47 3 true⟩,
    ⟨some 13, none, .call false false 45 [(.r 12)]⟩,
    ⟨some 5, none, .mov (.r 13)⟩]) 
  (.seq (.reg [⟨some 14, none, .mov (.r 5)⟩,
    ⟨some 15, none, .bin false .neq (.r 14) (.i .i64 0)⟩]) 
  (.cond (.r 15)
  (.seq (.reg [⟨some 16, none, .bld [] [.int .i64 0, .int .i64 0, .nil0]⟩,
     ⟨some 17, none, .bld [] [.int .i64 0, .int .i64 0, .nil0]⟩,
     ⟨some 18, none, .mov (.r 5)⟩,
     ⟨none, none, .st (.r 2) 2 0 50 3 (.r 16)⟩,
     ⟨none, none, .st (.r 3) 3 0 53 3 (.r 17)⟩,
     ⟨some 4, none, .mov (.r 18)⟩]) 
   (.ret))
  (.skip)))) 
  (.seq (.seq (.reg [⟨some 19, none, .fad (.r 1) 0⟩,
    ⟨some 20, none, .ld (.r 19) 1 0 47 1 false⟩,
    ⟨some 21, none, .fad (.r 1) 1⟩,
    ⟨some 22, none, .ld (.r 21) 1 1 48 1 false⟩,
    ⟨some 23, none, .bin false .lss (.r 20) (.r 22)⟩]) 
  (.cond (.r 23)
  (.seq (.reg [⟨some 24, none, .bld [] [.int .i64 0, .int .i64 0, .nil0]⟩,
     ⟨some 25, none, .bld [] [.int .i64 0, .int .i64 0, .nil0]⟩,
     ⟨none, none, .st (.r 2) 2 0 50 3 (.r 24)⟩,
     ⟨none, none, .st (.r 3) 3 0 53 3 (.r 25)⟩,
     ⟨some 4, none, .mov (.i .i64 11)⟩]) 
   (.ret))
  (.skip))) 
  (.seq (.reg [⟨some 27, none, .ld (.r 1) 1 0 47 3 true⟩,
    ⟨some 28, none, .call false false 46 [(.r 27), (.b false), (.b true)]⟩,
    ⟨some 26, none, .mov (.r 28)⟩,
    ⟨some 29, none, .ext (.r 26) 0⟩,
    ⟨some 30, none, .ext (.r 26) 1⟩,
    ⟨some 6, none, .mk 56 [.int .i64 0, .int .i64 0, .nil0]⟩,
    ⟨none, none, .st (.r 6) 6 0 56 3 (.r 29)⟩,
    ⟨some 7, none, .mov (.r 30)⟩]) 
  (.seq (.reg [⟨some 32, none, .ld (.r 1) 1 0 47 3 true⟩,
    ⟨some 33, none, .fad (.r 1) 1⟩,
    ⟨some 34, none, .ld (.r 33) 1 1 48 1 false⟩,
    ⟨some 35, none, .fad (.r 1) 1⟩,
    ⟨some 36, none, .ld (.r 35) 1 1 48 1 false⟩,
    ⟨some 37, none, .call false false 47 [(.r 32), (.i .i64 0), (.i .i64 0), (.r 34), (.r 36)]⟩,
    ⟨some 31, none, .mov (.r 37)⟩,
    ⟨some 38, none, .ext (.r 31) 0⟩,
    ⟨some 39, none, .ext (.r 31) 1⟩,
    ⟨some 8, none, .mk 59 [.int .i64 0, .int .i64 0, .nil0]⟩,
    ⟨none, none, .st (.r 8) 8 0 59 3 (.r 38)⟩,
    ⟨some 9, none, .mov (.r 39)⟩]) 
  (.seq (.reg [⟨some 41, none, .ld (.r 8) 8 0 59 3 true⟩,
    ⟨some 42, none, .call false false 46 [(.r 41), (.b true), (.b false)]⟩,
    ⟨some 40, none, .mov (.r 42)⟩,
    ⟨some 43, none, .ext (.r 40) 0⟩,
    ⟨some 44, none, .ext (.r 40) 1⟩,
    ⟨some 10, none, .mk 62 [.int .i64 0, .int .i64 0, .nil0]⟩,
    ⟨none, none, .st (.r 10) 10 0 62 3 (.r 43)⟩,
    ⟨some 11, none, .mov (.r 44)⟩]) 
  (.seq (.reg [⟨some 45, none, .ld (.r 6) 6 0 56 3 true⟩,
    ⟨some 46, none, .ld (.r 10) 10 0 62 3 true⟩,
    ⟨none, none, .st (.r 2) 2 0 50 3 (.r 45)⟩,
    ⟨none, none, .st (.r 3) 3 0 53 3 (.r 46)⟩,
    ⟨some 4, none, .mov (.i .i64 0)⟩]) 
  (.ret))))))),
  [.cell 2 2 50 3, .cell 3 3 53 3, .tmp 4]⟩
theorem chk25 : chkF Tryd.prog 25 ir25 = true := by kernel_rfl
/-- vernier/resid.finite -/
def ir26 : FnIr := ⟨⟨18, 21, 21, [(4, 18, 3)]⟩,
  .seq (.reg [⟨some 2, none, .mov (.i .i64 0)⟩]) 
  (.seq (.seq (.reg [⟨some 6, none, .mov (.r 0)⟩,
    ⟨some 7, none, .len false (.r 6)⟩,
    ⟨some 8, none, .mov (.i .i64 0)⟩]) 
  (.block 0 (.kil ⟨[4, 5, 9, 10, 11, 12, 13, 14, 15, 16, 17, 18, 19, 20], [4], [], []⟩ (.loop ⟨[4, 5, 9, 10, 11, 12, 13, 14, 15, 16, 17, 18, 19, 20], [4], [], []⟩ (.seq (.reg [⟨some 9, none, .bin false .lss (.r 8) (.r 7)⟩]) 
    (.seq (.cond (.r 9)
    (.skip)
    (.exit 0)) 
    (.seq (.block 1 (.seq (.reg [⟨some 10, none, .eat false (.r 6) (.r 8) 3⟩,
       ⟨some 11, none, .lde false (.r 10) 3 true⟩,
       ⟨some 4, none, .mk 18 [.int .i64 0, .int .i64 0, .nil0]⟩,
       ⟨none, none, .st (.r 4) 4 0 18 3 (.r 11)⟩]) 
     (.seq (.reg [⟨some 12, none, .ld (.r 4) 4 0 18 3 true⟩,
       ⟨some 13, none, .call false false 31 [(.r 12)]⟩,
       ⟨some 5, none, .mov (.r 13)⟩]) 
     (.seq (.reg [⟨some 14, none, .mov (.r 5)⟩,
       ⟨some 15, none, .bin false .neq (.r 14) (.i .i64 0)⟩]) 
     (.cond (.r 15)
     (.seq (.reg [⟨some 16, none, .mov (.r 5)⟩,
        ⟨some 2, none, .mov (.r 16)⟩]) 
      (.ret))
     (.skip)))))) 
    (.reg [⟨some 17, none, .bin false .add (.r 8) (.i .i64 1)⟩,
      ⟨some 8, none, .mov (.r 17)⟩])))))))) 
  (.seq (.reg [⟨some 2, none, .mov (.i .i64 0)⟩]) 
  (.ret))),
  [.tmp 2]⟩
theorem chk26 : chkF Tryd.prog 26 ir26 = true := by kernel_rfl
/-- vernier/resid.of -/
def ir27 : FnIr := ⟨⟨33, 45, 46, [(1, 33, 3), (2, 36, 3), (3, 39, 3), (6, 42, 3)]⟩,
  .seq (.reg [⟨some 1, none, .box 33 3 (.r 0)⟩,
    ⟨some 2, none, .mk 36 [.int .i64 0, .int .i64 0, .nil0]⟩]) 
  (.seq (.reg [⟨some 8, none, .fad (.r 1) 0⟩,
    ⟨some 9, none, .ld (.r 8) 1 0 33 1 false⟩,
    ⟨some 10, none, .fad (.r 1) 1⟩,
    ⟨some 11, none, .ld (.r 10) 1 1 34 1 false⟩,
    ⟨some 12, none, .bld [(0, 1, (.r 9)), (1, 1, (.r 11))] [.int .i64 0, .int .i64 0, .nil0]⟩,
    ⟨some 3, none, .mk 39 [.int .i64 0, .int .i64 0, .nil0]⟩,
    ⟨none, none, .st (.r 3) 3 0 39 3 (.r 12)⟩]) 
  (.seq (.seq (.reg [⟨some 13, none, .fad (.r 1) 2⟩,
    ⟨some 14, none, .ld (.r 13) 1 2 35 1 false⟩,
    ⟨some 15, none, .len false (.r 14)⟩,
    ⟨some 16, none, .mov (.i .i64 0)⟩]) 
  (.block 0 (.kil ⟨[5, 6, 7, 17, 18, 19, 20, 21, 22, 23, 24, 25, 26, 27, 28, 29, 30, 31, 42, 43, 44], [6], [], []⟩ (.loop ⟨[5, 6, 7, 17, 18, 19, 20, 21, 22, 23, 24, 25, 26, 27, 28, 29, 30, 31, 42, 43, 44], [6], [], []⟩ (.seq (.reg [⟨some 17, none, .bin false .lss (.r 16) (.r 15)⟩]) 
    (.seq (.cond (.r 17)
    (.skip)
    (.exit 0)) 
    (.seq (.block 1 (.seq (.reg [⟨some 18, none, .eat false (.r 14) (.r 16) 1⟩,
       ⟨some 19, none, .lde false (.r 18) 1 false⟩,
       ⟨some 5, none, .mov (.r 19)⟩]) 
     (.seq (.reg [⟨some 21, none, .mov (.r 5)⟩,
       ⟨some 22, none, .call false false 34 [(.r 21)]⟩,
       ⟨some 20, none, .mov (.r 22)⟩,
       ⟨some 23, none, .ext (.r 20) 0⟩,
       ⟨some 24, none, .ext (.r 20) 1⟩,
       ⟨some 6, none, .mk 42 [.bool false, .nil0, .int .i64 0]⟩,
       ⟨none, none, .st (.r 6) 6 0 42 3 (.r 23)⟩,
       ⟨some 7, none, .mov (.r 24)⟩]) 
     (.reg [⟨some 25, none, .fad (.r 3) 2⟩,
       ⟨some 26, none, .ld (.r 25) 3 2 41 1 false⟩,
       ⟨some 27, none, .ld (.r 6) 6 0 42 3 true⟩,
       ⟨some 28, none, .bsl 1 3 true [(0, 3, (.r 27))] [.bool false, .nil0, .int .i64 0]⟩,
       ⟨some 29, none, .app (.r 26) (.r 28) 0 3 40 27⟩,
       ⟨some 30, none, .fad (.r 3) 2⟩,
       ⟨none, none, .st (.r 30) 3 2 41 1 (.r 29)⟩])))) 
    (.reg [⟨some 31, none, .bin false .add (.r 16) (.i .i64 1)⟩,
      ⟨some 16, none, .mov (.r 31)⟩])))))))) 
  (.seq (.reg [⟨some 32, none, .ld (.r 3) 3 0 39 3 true⟩,
    ⟨none, none, .st (.r 2) 2 0 36 3 (.r 32)⟩]) 
  (.ret)))),
  [.cell 2 2 36 3]⟩
theorem chk27 : chkF Tryd.prog 27 ir27 = true := by kernel_rfl
/-- (vernier/resid.grid).most -/
def ir28 : FnIr := ⟨⟨32, 44, 44, [(1, 32, 3), (2, 35, 3), (3, 38, 3), (5, 41, 3)]⟩,
  .seq (.reg [⟨some 1, none, .box 32 3 (.r 0)⟩,
    ⟨some 2, none, .mk 35 [.bool false, .nil0, .int .i64 0]⟩]) 
  (.seq (.reg [⟨some 8, none, .bld [] [.bool false, .nil0, .int .i64 0]⟩,
    ⟨some 3, none, .mk 38 [.bool false, .nil0, .int .i64 0]⟩,
    ⟨none, none, .st (.r 3) 3 0 38 3 (.r 8)⟩]) 
  (.seq (.seq (.reg [⟨some 9, none, .fad (.r 1) 2⟩,
    ⟨some 10, none, .ld (.r 9) 1 2 34 1 false⟩,
    ⟨some 11, none, .len false (.r 10)⟩,
    ⟨some 12, none, .mov (.i .i64 0)⟩]) 
  (.block 0 (.kil ⟨[5, 6, 7, 13, 14, 15, 16, 17, 18, 19, 20, 21, 22, 23, 24, 25, 26, 27, 28, 29, 30, 41, 42, 43], [5], [], []⟩ (.loop ⟨[5, 6, 7, 13, 14, 15, 16, 17, 18, 19, 20, 21, 22, 23, 24, 25, 26, 27, 28, 29, 30, 41, 42, 43], [5], [], []⟩ (.seq (.reg [⟨some 13, none, .bin false .lss (.r 12) (.r 11)⟩]) 
    (.seq (.cond (.r 13)
    (.skip)
    (.exit 0)) 
    (.seq (.block 1 (.seq (.reg [⟨some 14, none, .eat false (.r 10) (.r 12) 3⟩,
       ⟨some 15, none, .lde false (.r 14) 3 true⟩,
       ⟨some 5, none, .mk 41 [.bool false, .nil0, .int .i64 0]⟩,
       ⟨none, none, .st (.r 5) 5 0 41 3 (.r 15)⟩]) 
     (.seq (.reg [⟨some 17, none, .ld (.r 5) 5 0 41 3 true⟩,
       ⟨some 18, none, .call false false 32 [(.r 17)]⟩,
       ⟨some 16, none, .mov (.r 18)⟩,
       ⟨some 19, none, .ext (.r 16) 0⟩,
       ⟨some 20, none, .ext (.r 16) 1⟩,
       ⟨none, none, .st (.r 5) 5 0 41 3 (.r 19)⟩]) 
     (.seq (.reg [⟨some 22, none, .ld (.r 5) 5 0 41 3 true⟩,
       ⟨some 23, none, .ld (.r 3) 3 0 38 3 true⟩,
       ⟨some 24, none, .call false false 33 [(.r 22), (.r 23)]⟩,
       ⟨some 21, none, .mov (.r 24)⟩,
       ⟨some 25, none, .ext (.r 21) 0⟩,
       ⟨some 26, none, .ext (.r 21) 1⟩,
       ⟨some 6, none, .mov (.r 25)⟩,
       ⟨some 7, none, .mov (.r 26)⟩]) 
     (.seq (.reg [⟨some 27, none, .mov (.r 6)⟩,
       ⟨some 28, none, .bin false .gtr (.r 27) (.i .i64 0)⟩]) 
     (.cond (.r 28)
     (.reg [⟨some 29, none, .ld (.r 5) 5 0 41 3 true⟩,
        ⟨none, none, .st (.r 3) 3 0 38 3 (.r 29)⟩])
     (.skip))))))) 
    (.reg [⟨some 30, none, .bin false .add (.r 12) (.i .i64 1)⟩,
      ⟨some 12, none, .mov (.r 30)⟩])))))))) 
  (.seq (.reg [⟨some 31, none, .ld (.r 3) 3 0 38 3 true⟩,
    ⟨none, none, .st (.r 2) 2 0 35 3 (.r 31)⟩]) 
  (.ret)))),
  [.cell 2 2 35 3]⟩
theorem chk28 : chkF Tryd.prog 28 ir28 = true := by kernel_rfl
/-- (vernier/resid.grid).less -/
def ir29 : FnIr := ⟨⟨35, 50, 51, [(2, 35, 3), (3, 38, 3), (4, 41, 3), (5, 44, 3), (7, 47, 3)]⟩,
  .seq (.reg [⟨some 2, none, .box 35 3 (.r 0)⟩,
    ⟨some 3, none, .box 38 3 (.r 1)⟩,
    ⟨some 4, none, .mk 41 [.int .i64 0, .int .i64 0, .nil0]⟩]) 
  (.seq (.reg [⟨some 8, none, .fad (.r 2) 0⟩,
    ⟨some 9, none, .ld (.r 8) 2 0 35 1 false⟩,
    ⟨some 10, none, .fad (.r 2) 1⟩,
    ⟨some 11, none, .ld (.r 10) 2 1 36 1 false⟩,
    ⟨some 12, none, .bld [(0, 1, (.r 9)), (1, 1, (.r 11))] [.int .i64 0, .int .i64 0, .nil0]⟩,
    ⟨some 5, none, .mk 44 [.int .i64 0, .int .i64 0, .nil0]⟩,
    ⟨none, none, .st (.r 5) 5 0 44 3 (.r 12)⟩]) 
  (.seq (.seq (.reg [⟨some 13, none, .fad (.r 2) 2⟩,
    ⟨some 14, none, .ld (.r 13) 2 2 37 1 false⟩,
    ⟨some 15, none, .len false (.r 14)⟩,
    ⟨some 16, none, .mov (.i .i64 0)⟩]) 
  (.block 0 (.kil ⟨[6, 7, 17, 18, 19, 20, 21, 22, 23, 24, 25, 26, 27, 28, 29, 30, 31, 32, 33, 47, 48, 49], [7], [], []⟩ (.loop ⟨[6, 7, 17, 18, 19, 20, 21, 22, 23, 24, 25, 26, 27, 28, 29, 30, 31, 32, 33, 47, 48, 49], [7], [], []⟩ (.seq (.reg [⟨some 17, none, .bin false .lss (.r 16) (.r 15)⟩]) 
    (.seq (.cond (.r 17)
    (.skip)
    (.exit 0)) 
    (.seq (.block 1 (.seq (.reg [⟨some 18, none, .mov (.r 16)⟩,
       ⟨some 19, none, .eat false (.r 14) (.r 16) 3⟩,
       ⟨some 20, none, .lde false (.r 19) 3 true⟩,
       ⟨some 7, none, .mk 47 [.bool false, .nil0, .int .i64 0]⟩,
       ⟨some 6, none, .mov (.r 18)⟩,
       ⟨none, none, .st (.r 7) 7 0 47 3 (.r 20)⟩]) 
     (.reg [⟨some 21, none, .fad (.r 5) 2⟩,
       ⟨some 22, none, .ld (.r 21) 5 2 46 1 false⟩,
       ⟨some 23, none, .ld (.r 7) 7 0 47 3 true⟩,
       ⟨some 24, none, .fad (.r 3) 2⟩,
       ⟨some 25, none, .ld (.r 24) 3 2 40 1 false⟩,
       ⟨some 26, none, .mov (.r 6)⟩,
       ⟨some 27, none, .eat false (.r 25) (.r 26) 3⟩,
       ⟨some 28, none, .lde false (.r 27) 3 true⟩,
       ⟨some 29, none, .call false false 48 [(.r 23), (.r 28)]⟩,
       ⟨some 30, none, .bsl 1 3 true [(0, 3, (.r 29))] [.bool false, .nil0, .int .i64 0]⟩,
       ⟨some 31, none, .app (.r 22) (.r 30) 0 3 40 27⟩,
       ⟨some 32, none, .fad (.r 5) 2⟩,
       ⟨none, none, .st (.r 32) 5 2 46 1 (.r 31)⟩]))) 
    (.reg [⟨some 33, none, .bin false .add (.r 16) (.i .i64 1)⟩,
      ⟨some 16, none, .mov (.r 33)⟩])))))))) 
  (.seq (.reg [⟨some 34, none, .ld (.r 5) 5 0 44 3 true⟩,
    ⟨none, none, .st (.r 4) 4 0 41 3 (.r 34)⟩]) 
  (.ret)))),
  [.cell 4 4 41 3]⟩
theorem chk29 : chkF Tryd.prog 29 ir29 = true := by kernel_rfl
/-- (vernier/resid.grid).times -/
def ir30 : FnIr := ⟨⟨52, 67, 68, [(2, 52, 3), (3, 55, 3), (4, 58, 3), (5, 61, 3), (8, 64, 3)]⟩,
  .seq (.reg [⟨some 2, none, .box 52 3 (.r 0)⟩,
    ⟨some 3, none, .box 55 3 (.r 1)⟩,
    ⟨some 4, none, .mk 58 [.int .i64 0, .int .i64 0, .nil0]⟩]) 
  (.seq (.reg [⟨some 10, none, .fad (.r 2) 0⟩,
    ⟨some 11, none, .ld (.r 10) 2 0 52 1 false⟩,
    ⟨some 12, none, .fad (.r 3) 1⟩,
    ⟨some 13, none, .ld (.r 12) 3 1 56 1 false⟩,
    ⟨some 14, none, .bld [(0, 1, (.r 11)), (1, 1, (.r 13))] [.int .i64 0, .int .i64 0, .nil0]⟩,
    ⟨some 5, none, .mk 61 [.int .i64 0, .int .i64 0, .nil0]⟩,
    ⟨none, none, .st (.r 5) 5 0 61 3 (.r 14)⟩]) 
  (.seq (.seq (.reg [⟨some 15, none, .fad (.r 2) 0⟩,
    ⟨some 16, none, .ld (.r 15) 2 0 52 1 false⟩,
    ⟨some 17, none, .mov (.i .i64 0)⟩]) 
  (.block 0 (.kil ⟨[6, 7, 8, 9, 18, 19, 20, 21, 22, 23, 24, 25, 26, 27, 28, 29, 30, 31, 32, 33, 34, 35, 36, 37, 38, 39, 40, 41, 42, 43, 44, 45, 46, 47, 48, 49, 50, 64, 65, 66], [8], [], []⟩ (.loop ⟨[6, 7, 8, 9, 18, 19, 20, 21, 22, 23, 24, 25, 26, 27, 28, 29, 30, 31, 32, 33, 34, 35, 36, 37, 38, 39, 40, 41, 42, 43, 44, 45, 46, 47, 48, 49, 50, 64, 65, 66], [8], [], []⟩ (.seq (.reg [⟨some 18, none, .bin false .lss (.r 17) (.r 16)⟩]) 
    (.seq (.cond (.r 18)
    (.skip)
    (.exit 0)) 
    (.seq (.block 1 (.seq (.reg [⟨some 19, none, .mov (.r 17)⟩,
       ⟨some 6, none, .mov (.r 19)⟩]) 
     (.seq (.reg [⟨some 20, none, .fad (.r 3) 1⟩,
       ⟨some 21, none, .ld (.r 20) 3 1 56 1 false⟩,
       ⟨some 22, none, .mov (.i .i64 0)⟩]) 
     (.block 2 (.kil ⟨[7, 8, 9, 23, 24, 25, 26, 27, 28, 29, 30, 31, 32, 33, 34, 35, 36, 37, 38, 39, 40, 41, 42, 43, 44, 45, 46, 47, 48, 49, 64, 65, 66], [8], [], []⟩ (.loop ⟨[7, 8, 9, 23, 24, 25, 26, 27, 28, 29, 30, 31, 32, 33, 34, 35, 36, 37, 38, 39, 40, 41, 42, 43, 44, 45, 46, 47, 48, 49, 64, 65, 66], [8], [], []⟩ (.seq (.reg [⟨some 23, none, .bin false .lss (.r 22) (.r 21)⟩]) 
       (.seq (.cond (.r 23)
       (.skip)
       (.exit 2)) 
       (.seq (.block 3 (.seq (.reg [⟨some 24, none, .mov (.r 22)⟩,
          ⟨some 7, none, .mov (.r 24)⟩]) 
        (.seq (.reg [⟨some 25, none, .bld [] [.bool false, .nil0, .int .i64 0]⟩,
          ⟨some 8, none, .mk 64 [.bool false, .nil0, .int .i64 0]⟩,
          ⟨none, none, .st (.r 8) 8 0 64 3 (.r 25)⟩]) 
        (.seq (.seq (.reg [⟨some 26, none, .fad (.r 2) 1⟩,
          ⟨some 27, none, .ld (.r 26) 2 1 53 1 false⟩,
          ⟨some 28, none, .mov (.i .i64 0)⟩]) 
        (.block 4 (.kil ⟨[9, 29, 30, 31, 32, 33, 34, 35, 36, 37, 38, 39, 40, 41, 42], [], [], []⟩ (.loop ⟨[9, 29, 30, 31, 32, 33, 34, 35, 36, 37, 38, 39, 40, 41, 42], [], [], []⟩ (.seq (.reg [⟨some 29, none, .bin false .lss (.r 28) (.r 27)⟩]) 
          (.seq (.cond (.r 29)
          (.skip)
          (.exit 4)) 
          (.seq (.block 5 (.seq (.reg [⟨some 30, none, .mov (.r 28)⟩,
             ⟨some 9, none, .mov (.r 30)⟩]) 
           (.reg [⟨some 31, none, .ld (.r 8) 8 0 64 3 true⟩,
             ⟨some 32, none, .ld (.r 2) 2 0 52 3 true⟩,
             ⟨some 33, none, .mov (.r 6)⟩,
             ⟨some 34, none, .mov (.r 9)⟩,
             ⟨some 35, none, .call false false 51 [(.r 32), (.r 33), (.r 34)]⟩,
             ⟨some 36, none, .ld (.r 3) 3 0 55 3 true⟩,
             ⟨some 37, none, .mov (.r 9)⟩,
             ⟨some 38, none, .mov (.r 7)⟩,
             ⟨some 39, none, .call false false 51 [(.r 36), (.r 37), (.r 38)]⟩,
             ⟨some 40, none, .call false false 50 [(.r 35), (.r 39)]⟩,
             ⟨some 41, none, .call false false 49 [(.r 31), (.r 40)]⟩,
             ⟨none, none, .st (.r 8) 8 0 64 3 (.r 41)⟩]))) 
          (.reg [⟨some 42, none, .bin false .add (.r 28) (.i .i64 1)⟩,
            ⟨some 28, none, .mov (.r 42)⟩])))))))) 
        (.reg [⟨some 43, none, .fad (.r 5) 2⟩,
          ⟨some 44, none, .ld (.r 43) 5 2 63 1 false⟩,
          ⟨some 45, none, .ld (.r 8) 8 0 64 3 true⟩,
          ⟨some 46, none, .bsl 1 3 true [(0, 3, (.r 45))] [.bool false, .nil0, .int .i64 0]⟩,
          ⟨some 47, none, .app (.r 44) (.r 46) 0 3 40 27⟩,
          ⟨some 48, none, .fad (.r 5) 2⟩,
          ⟨none, none, .st (.r 48) 5 2 63 1 (.r 47)⟩]))))) 
       (.reg [⟨some 49, none, .bin false .add (.r 22) (.i .i64 1)⟩,
         ⟨some 22, none, .mov (.r 49)⟩])))))))))) 
    (.reg [⟨some 50, none, .bin false .add (.r 17) (.i .i64 1)⟩,
      ⟨some 17, none, .mov (.r 50)⟩])))))))) 
  (.seq (.reg [⟨some 51, none, .ld (.r 5) 5 0 61 3 true⟩,
    ⟨none, none, .st (.r 4) 4 0 58 3 (.r 51)⟩]) 
  (.ret)))),
  [.cell 4 4 58 3]⟩
theorem chk30 : chkF Tryd.prog 30 ir30 = true := by kernel_rfl
/-- vernier/dyadic.Abs -/
def ir32 : FnIr := ⟨⟨9, 15, 15, [(1, 9, 3), (2, 12, 3)]⟩,
  .seq (.reg [⟨some 1, none, .box 9 3 (.r 0)⟩,
    ⟨some 2, none, .mk 12 [.bool false, .nil0, .int .i64 0]⟩,
    ⟨some 3, none, .mov (.i .i64 0)⟩]) 
  (.seq (.reg [⟨some 4, none, .fad (.r 1) 0⟩,
    ⟨none, none, .st (.r 4) 1 0 9 1 (.b false)⟩]) 
  (.seq (.reg [⟨some 5, none, .ld (.r 1) 1 0 9 3 true⟩,
    ⟨some 6, none, .call false false 55 [(.r 5)]⟩,
    ⟨some 7, none, .ext (.r 6) 0⟩,
    ⟨some 8, none, .ext (.r 6) 1⟩,
    ⟨none, none, .st (.r 2) 2 0 12 3 (.r 7)⟩,
    ⟨some 3, none, .mov (.r 8)⟩]) 
  (.ret))),
  [.cell 2 2 12 3, .tmp 3]⟩
theorem chk32 : chkF Tryd.prog 32 ir32 = true := by kernel_rfl
/-- vernier/dyadic.Cmp -/
def ir33 : FnIr := ⟨⟨27, 37, 37, [(2, 27, 3), (3, 30, 3), (7, 33, 2), (8, 35, 2)]⟩,
  .seq (.reg [⟨some 2, none, .box 27 3 (.r 0)⟩,
    ⟨some 3, none, .box 30 3 (.r 1)⟩,
    ⟨some 4, none, .mov (.i .i64 0)⟩,
    ⟨some 5, none, .mov (.i .i64 0)⟩]) 
  (.seq (.seq (.reg [⟨some 10, none, .ld (.r 2) 2 0 27 3 true⟩,
    ⟨some 11, none, .ld (.r 3) 3 0 30 3 true⟩,
    ⟨some 12, none, .bsl 2 3 true [(0, 3, (.r 10)), (3, 3, (.r 11))] [.bool false, .nil0, .int .i64 0]⟩,
    ⟨some 13, none, .call false false 56 [(.r 12)]⟩,
    ⟨some 6, none, .mov (.r 13)⟩]) 
  (.seq (.reg [⟨some 14, none, .mov (.r 6)⟩,
    ⟨some 15, none, .bin false .neq (.r 14) (.i .i64 0)⟩]) 
  (.cond (.r 15)
  (.seq (.reg [⟨some 16, none, .mov (.r 6)⟩,
     ⟨some 4, none, .mov (.i .i64 0)⟩,
     ⟨some 5, none, .mov (.r 16)⟩]) 
   (.ret))
  (.skip)))) 
  (.seq (.reg [⟨some 18, none, .ld (.r 2) 2 0 27 3 true⟩,
    ⟨some 19, none, .ld (.r 3) 3 0 30 3 true⟩,
    ⟨some 20, none, .call false false 57 [(.r 18), (.r 19)]⟩,
    ⟨some 17, none, .mov (.r 20)⟩,
    ⟨some 21, none, .ext (.r 17) 0⟩,
    ⟨some 22, none, .ext (.r 17) 1⟩,
    ⟨some 23, none, .ext (.r 17) 2⟩,
    ⟨some 7, none, .mk 33 [.bool false, .nil0]⟩,
    ⟨some 8, none, .mk 35 [.bool false, .nil0]⟩,
    ⟨none, none, .st (.r 7) 7 0 33 2 (.r 21)⟩,
    ⟨none, none, .st (.r 8) 8 0 35 2 (.r 22)⟩,
    ⟨some 9, none, .mov (.r 23)⟩]) 
  (.seq (.reg [⟨some 24, none, .ld (.r 7) 7 0 33 2 true⟩,
    ⟨some 25, none, .ld (.r 8) 8 0 35 2 true⟩,
    ⟨some 26, none, .call false false 58 [(.r 24), (.r 25)]⟩,
    ⟨some 4, none, .mov (.r 26)⟩,
    ⟨some 5, none, .mov (.i .i64 0)⟩]) 
  (.ret)))),
  [.tmp 4, .tmp 5]⟩
theorem chk33 : chkF Tryd.prog 33 ir33 = true := by kernel_rfl
/-- vernier/fconv.ToDyadic -/
def ir34 : FnIr := ⟨⟨27, 30, 30, [(2, 27, 3)]⟩,
  .seq (.reg [⟨some 2, none, .mk 27 [.bool false, .nil0, .int .i64 0]⟩,
    ⟨some 3, none, .mov (.i .i64 0)⟩]) 
  (.seq (.reg [⟨some 9, none, .mov (.r 0)⟩,
    ⟨some 10, none, .call false false 59 [(.r 9)]⟩,
    ⟨some 8, none, .mov (.r 10)⟩,
    ⟨some 11, none, .ext (.r 8) 0⟩,
    ⟨some 12, none, .ext (.r 8) 1⟩,
    ⟨some 13, none, .ext (.r 8) 2⟩,
    ⟨some 14, none, .ext (.r 8) 3⟩,
    ⟨some 4, none, .mov (.r 11)⟩,
    ⟨some 5, none, .mov (.r 12)⟩,
    ⟨some 6, none, .mov (.r 13)⟩,
    ⟨some 7, none, .mov (.r 14)⟩]) 
  (.seq (.seq (.reg [⟨some 15, none, .mov (.r 7)⟩,
    ⟨some 16, none, .bin false .neq (.r 15) (.i .i64 0)⟩]) 
  (.cond (.r 16)
  (.seq (.reg [⟨some 17, none, .bld [] [.bool false, .nil0, .int .i64 0]⟩,
     ⟨some 18, none, .mov (.r 7)⟩,
     ⟨none, none, .st (.r 2) 2 0 27 3 (.r 17)⟩,
     ⟨some 3, none, .mov (.r 18)⟩]) 
   (.ret))
  (.skip))) 
  (.seq (.reg [⟨some 19, none, .mov (.r 4)⟩,
    ⟨some 20, none, .mov (.r 5)⟩,
    ⟨some 21, none, .bsl 1 1 false [(0, 1, (.r 20))] [.int .u64 0]⟩,
    ⟨some 22, none, .mov (.r 6)⟩,
    ⟨some 23, none, .bld [(0, 1, (.r 19)), (1, 1, (.r 21)), (2, 1, (.r 22))] [.bool false, .nil0, .int .i64 0]⟩,
    ⟨some 24, none, .call false false 55 [(.r 23)]⟩,
    ⟨some 25, none, .ext (.r 24) 0⟩,
    ⟨some 26, none, .ext (.r 24) 1⟩,
    ⟨none, none, .st (.r 2) 2 0 27 3 (.r 25)⟩,
    ⟨some 3, none, .mov (.r 26)⟩]) 
  (.ret)))),
  [.cell 2 2 27 3, .tmp 3]⟩
theorem chk34 : chkF Tryd.prog 34 ir34 = true := by kernel_rfl
/-- vernier/vernierlaw35.add -/
def ir35 : FnIr := ⟨⟨14, 26, 26, [(2, 14, 3), (3, 17, 3), (4, 20, 3), (5, 23, 3)]⟩,
  .seq (.reg [⟨some 2, none, .box 14 3 (.r 0)⟩,
    ⟨some 3, none, .box 17 3 (.r 1)⟩,
    ⟨some 4, none, .mk 20 [.bool false, .nil0, .int .i64 0]⟩]) 
  (.seq (.reg [⟨some 8, none, .ld (.r 2) 2 0 14 3 true⟩,
    ⟨some 9, none, .ld (.r 3) 3 0 17 3 true⟩,
    ⟨some 10, none, .call false false 60 [(.r 8), (.r 9)]⟩,
    ⟨some 7, none, .mov (.r 10)⟩,
    ⟨some 11, none, .ext (.r 7) 0⟩,
    ⟨some 12, none, .ext (.r 7) 1⟩,
    ⟨some 5, none, .mk 23 [.bool false, .nil0, .int .i64 0]⟩,
    ⟨none, none, .st (.r 5) 5 0 23 3 (.r 11)⟩,
    ⟨some 6, none, .mov (.r 12)⟩]) 
  (.seq (.reg [⟨some 13, none, .ld (.r 5) 5 0 23 3 true⟩,
    ⟨none, none, .st (.r 4) 4 0 20 3 (.r 13)⟩]) 
  (.ret))),
  [.cell 4 4 20 3]⟩
theorem chk35 : chkF Tryd.prog 35 ir35 = true := by kernel_rfl
/-- vernier/vernierlaw35.mul -/
def ir36 : FnIr := ⟨⟨14, 26, 26, [(2, 14, 3), (3, 17, 3), (4, 20, 3), (5, 23, 3)]⟩,
  .seq (.reg [⟨some 2, none, .box 14 3 (.r 0)⟩,
    ⟨some 3, none, .box 17 3 (.r 1)⟩,
    ⟨some 4, none, .mk 20 [.bool false, .nil0, .int .i64 0]⟩]) 
  (.seq (.reg [⟨some 8, none, .ld (.r 2) 2 0 14 3 true⟩,
    ⟨some 9, none, .ld (.r 3) 3 0 17 3 true⟩,
    ⟨some 10, none, .call false false 61 [(.r 8), (.r 9)]⟩,
    ⟨some 7, none, .mov (.r 10)⟩,
    ⟨some 11, none, .ext (.r 7) 0⟩,
    ⟨some 12, none, .ext (.r 7) 1⟩,
    ⟨some 5, none, .mk 23 [.bool false, .nil0, .int .i64 0]⟩,
    ⟨none, none, .st (.r 5) 5 0 23 3 (.r 11)⟩,
    ⟨some 6, none, .mov (.r 12)⟩]) 
  (.seq (.reg [⟨some 13, none, .ld (.r 5) 5 0 23 3 true⟩,
    ⟨none, none, .st (.r 4) 4 0 20 3 (.r 13)⟩]) 
  (.ret))),
  [.cell 4 4 20 3]⟩
theorem chk36 : chkF Tryd.prog 36 ir36 = true := by kernel_rfl
/-- vernier/vernierref01.Same -/
def ir37 : FnIr := ⟨⟨26, 26, 26, []⟩,
  .seq (.reg [⟨some 4, none, .mov (.b false)⟩]) 
  (.seq (.seq (.reg [⟨some 6, none, .mov (.r 0)⟩,
    ⟨some 7, none, .len false (.r 6)⟩,
    ⟨some 8, none, .mov (.r 1)⟩,
    ⟨some 9, none, .len false (.r 8)⟩,
    ⟨some 10, none, .bin false .neq (.r 7) (.r 9)⟩]) 
  (.cond (.r 10)
  (.seq (.reg [⟨some 4, none, .mov (.b false)⟩]) 
   (.ret))
  (.skip))) 
  (.seq (.seq (.reg [⟨some 5, none, .mov (.i .i64 0)⟩]) 
  (.block 0 (.kil ⟨[11, 12, 13, 14, 15, 16, 17, 18, 19, 20, 21, 22, 23, 24, 25], [], [], []⟩ (.loop ⟨[11, 12, 13, 14, 15, 16, 17, 18, 19, 20, 21, 22, 23, 24, 25], [], [], []⟩ (.seq (.seq (.reg [⟨some 11, none, .mov (.r 5)⟩,
      ⟨some 12, none, .mov (.r 0)⟩,
      ⟨some 13, none, .len false (.r 12)⟩,
      ⟨some 14, none, .bin false .lss (.r 11) (.r 13)⟩]) 
    (.cond (.r 14)
    (.skip)
    (.exit 0))) 
    (.seq (.block 1 (.seq (.reg [⟨some 17, none, .mov (.r 0)⟩,
       ⟨some 18, none, .mov (.r 5)⟩,
       ⟨some 19, none, .eat false (.r 17) (.r 18) 1⟩,
       ⟨some 20, none, .lde false (.r 19) 1 false⟩,
       ⟨some 21, none, .mov (.r 1)⟩,
       ⟨some 22, none, .mov (.r 5)⟩,
       ⟨some 23, none, .eat false (.r 21) (.r 22) 1⟩,
       ⟨some 24, none, .lde false (.r 23) 1 false⟩,
       ⟨some 25, none, .bin false .neq (.r 20) (.r 24)⟩]) 
     (.cond (.r 25)
     (.seq (.reg [⟨some 4, none, .mov (.b false)⟩]) 
      (.ret))
     (.skip)))) 
    (.reg [⟨some 15, none, .mov (.r 5)⟩,
      ⟨some 16, none, .bin false .add (.r 15) (.i .i64 1)⟩,
      ⟨some 5, none, .mov (.r 16)⟩]))))))) 
  (.seq (.reg [⟨some 4, none, .mov (.b true)⟩]) 
  (.ret)))),
  [.tmp 4]⟩
theorem chk37 : chkF Tryd.prog 37 ir37 = true := by kernel_rfl
/-- vernier/resid.unit -/
def ir38 : FnIr := ⟨⟨12, 18, 18, [(2, 12, 3), (3, 15, 3)]⟩,
  .seq (.reg [⟨some 2, none, .mk 12 [.int .i64 0, .int .i64 0, .nil0]⟩]) 
  (.seq (.reg [⟨some 6, none, .mov (.r 0)⟩,
    ⟨some 7, none, .call false false 40 [(.r 6)]⟩,
    ⟨some 5, none, .mov (.r 7)⟩,
    ⟨some 8, none, .ext (.r 5) 0⟩,
    ⟨some 9, none, .ext (.r 5) 1⟩,
    ⟨some 3, none, .mk 15 [.int .i64 0, .int .i64 0, .nil0]⟩,
    ⟨none, none, .st (.r 3) 3 0 15 3 (.r 8)⟩,
    ⟨some 4, none, .mov (.r 9)⟩]) 
  (.seq (.reg [⟨some 10, none, .ld (.r 3) 3 0 15 3 true⟩,
    ⟨some 11, none, .call false false 27 [(.r 10)]⟩,
    ⟨none, none, .st (.r 2) 2 0 12 3 (.r 11)⟩]) 
  (.ret))),
  [.cell 2 2 12 3]⟩
theorem chk38 : chkF Tryd.prog 38 ir38 = true := by kernel_rfl
/-- (vernier/resid.grid).turned -/
def ir39 : FnIr := ⟨⟨33, 42, 43, [(1, 33, 3), (2, 36, 3), (3, 39, 3)]⟩,
  .seq (.reg [⟨some 1, none, .box 33 3 (.r 0)⟩,
    ⟨some 2, none, .mk 36 [.int .i64 0, .int .i64 0, .nil0]⟩]) 
  (.seq (.reg [⟨some 6, none, .fad (.r 1) 1⟩,
    ⟨some 7, none, .ld (.r 6) 1 1 34 1 false⟩,
    ⟨some 8, none, .fad (.r 1) 0⟩,
    ⟨some 9, none, .ld (.r 8) 1 0 33 1 false⟩,
    ⟨some 10, none, .bld [(0, 1, (.r 7)), (1, 1, (.r 9))] [.int .i64 0, .int .i64 0, .nil0]⟩,
    ⟨some 3, none, .mk 39 [.int .i64 0, .int .i64 0, .nil0]⟩,
    ⟨none, none, .st (.r 3) 3 0 39 3 (.r 10)⟩]) 
  (.seq (.seq (.reg [⟨some 11, none, .fad (.r 1) 1⟩,
    ⟨some 12, none, .ld (.r 11) 1 1 34 1 false⟩,
    ⟨some 13, none, .mov (.i .i64 0)⟩]) 
  (.block 0 (.kil ⟨[4, 5, 14, 15, 16, 17, 18, 19, 20, 21, 22, 23, 24, 25, 26, 27, 28, 29, 30, 31], [], [], []⟩ (.loop ⟨[4, 5, 14, 15, 16, 17, 18, 19, 20, 21, 22, 23, 24, 25, 26, 27, 28, 29, 30, 31], [], [], []⟩ (.seq (.reg [⟨some 14, none, .bin false .lss (.r 13) (.r 12)⟩]) 
    (.seq (.cond (.r 14)
    (.skip)
    (.exit 0)) 
    (.seq (.block 1 (.seq (.reg [⟨some 15, none, .mov (.r 13)⟩,
       ⟨some 4, none, .mov (.r 15)⟩]) 
     (.seq (.reg [⟨some 16, none, .fad (.r 1) 0⟩,
       ⟨some 17, none, .ld (.r 16) 1 0 33 1 false⟩,
       ⟨some 18, none, .mov (.i .i64 0)⟩]) 
     (.block 2 (.kil ⟨[5, 19, 20, 21, 22, 23, 24, 25, 26, 27, 28, 29, 30], [], [], []⟩ (.loop ⟨[5, 19, 20, 21, 22, 23, 24, 25, 26, 27, 28, 29, 30], [], [], []⟩ (.seq (.reg [⟨some 19, none, .bin false .lss (.r 18) (.r 17)⟩]) 
       (.seq (.cond (.r 19)
       (.skip)
       (.exit 2)) 
       (.seq (.block 3 (.seq (.reg [⟨some 20, none, .mov (.r 18)⟩,
          ⟨some 5, none, .mov (.r 20)⟩]) 
        (.reg [⟨some 21, none, .fad (.r 3) 2⟩,
          ⟨some 22, none, .ld (.r 21) 3 2 41 1 false⟩,
          ⟨some 23, none, .ld (.r 1) 1 0 33 3 true⟩,
          ⟨some 24, none, .mov (.r 5)⟩,
          ⟨some 25, none, .mov (.r 4)⟩,
          ⟨some 26, none, .call false false 51 [(.r 23), (.r 24), (.r 25)]⟩,
          ⟨some 27, none, .bsl 1 3 true [(0, 3, (.r 26))] [.bool false, .nil0, .int .i64 0]⟩,
          ⟨some 28, none, .app (.r 22) (.r 27) 0 3 40 27⟩,
          ⟨some 29, none, .fad (.r 3) 2⟩,
          ⟨none, none, .st (.r 29) 3 2 41 1 (.r 28)⟩]))) 
       (.reg [⟨some 30, none, .bin false .add (.r 18) (.i .i64 1)⟩,
         ⟨some 18, none, .mov (.r 30)⟩])))))))))) 
    (.reg [⟨some 31, none, .bin false .add (.r 13) (.i .i64 1)⟩,
      ⟨some 13, none, .mov (.r 31)⟩])))))))) 
  (.seq (.reg [⟨some 32, none, .ld (.r 3) 3 0 39 3 true⟩,
    ⟨none, none, .st (.r 2) 2 0 36 3 (.r 32)⟩]) 
  (.ret)))),
  [.cell 2 2 36 3]⟩
theorem chk39 : chkF Tryd.prog 39 ir39 = true := by kernel_rfl
/-- vernier/shape.Identity -/
def ir40 : FnIr := ⟨⟨29, 35, 36, [(2, 29, 3), (4, 32, 3)]⟩,
  .seq (.reg [⟨some 2, none, .mk 29 [.int .i64 0, .int .i64 0, .nil0]⟩,
    ⟨some 3, none, .mov (.i .i64 0)⟩]) 
  (.seq (.reg [⟨some 8, none, .mov (.r 0)⟩,
    ⟨some 9, none, .mov (.r 0)⟩,
    ⟨some 10, none, .callf 0 62 [(.r 8), (.r 9)]⟩,
    ⟨some 7, none, .mov (.r 10)⟩,
    ⟨some 11, none, .ext (.r 7) 0⟩,
    ⟨some 12, none, .ext (.r 7) 1⟩,
    ⟨some 4, none, .mk 32 [.int .i64 0, .int .i64 0, .nil0]⟩,
    ⟨none, none, .st (.r 4) 4 0 32 3 (.r 11)⟩,
    ⟨some 5, none, .mov (.r 12)⟩]) 
  (.seq (.seq (.reg [⟨some 13, none, .fad (.r 4) 0⟩,
    ⟨some 14, none, .ld (.r 13) 4 0 32 1 false⟩,
    ⟨some 15, none, .mov (.i .i64 0)⟩]) 
  (.block 0 (.kil ⟨[6, 16, 17, 18, 19, 20, 21, 22, 23, 24, 25, 26], [], [], []⟩ (.loop ⟨[6, 16, 17, 18, 19, 20, 21, 22, 23, 24, 25, 26], [], [], []⟩ (.seq (.reg [⟨some 16, none, .bin false .lss (.r 15) (.r 14)⟩]) 
    (.seq (.cond (.r 16)
    (.skip)
    (.exit 0)) 
    (.seq (.block 1 (.seq (.reg [⟨some 17, none, .mov (.r 15)⟩,
       ⟨some 6, none, .mov (.r 17)⟩]) 
     (.reg [⟨some 18, none, .fad (.r 4) 2⟩,
       ⟨some 19, none, .ld (.r 18) 4 2 34 1 false⟩,
       ⟨some 20, none, .mov (.r 6)⟩,
       ⟨some 21, none, .mov (.r 0)⟩,
       ⟨some 22, none, .bin false .mul (.r 20) (.r 21)⟩,
       ⟨some 23, none, .mov (.r 6)⟩,
       ⟨some 24, none, .bin false .add (.r 22) (.r 23)⟩,
       ⟨some 25, none, .eat true (.r 19) (.r 24) 1⟩,
       ⟨none, none, .ste (.r 25) false 1 (.i .u64 4607182418800017408)⟩]))) 
    (.reg [⟨some 26, none, .bin false .add (.r 15) (.i .i64 1)⟩,
      ⟨some 15, none, .mov (.r 26)⟩])))))))) 
  (.seq (.reg [⟨some 27, none, .ld (.r 4) 4 0 32 3 true⟩,
    ⟨some 28, none, .mov (.r 5)⟩,
    ⟨none, none, .st (.r 2) 2 0 29 3 (.r 27)⟩,
    ⟨some 3, none, .mov (.r 28)⟩]) 
  (.ret)))),
  [.cell 2 2 29 3, .tmp 3]⟩
theorem chk40 : chkF Tryd.prog 40 ir40 = true := by kernel_rfl
/-- vernier/dyadic.Sub -/
def ir41 : FnIr := ⟨⟨15, 24, 24, [(2, 15, 3), (3, 18, 3), (4, 21, 3)]⟩,
  .seq (.reg [⟨some 2, none, .box 15 3 (.r 0)⟩,
    ⟨some 3, none, .box 18 3 (.r 1)⟩,
    ⟨some 4, none, .mk 21 [.bool false, .nil0, .int .i64 0]⟩,
    ⟨some 5, none, .mov (.i .i64 0)⟩]) 
  (.seq (.reg [⟨some 6, none, .fad (.r 3) 0⟩,
    ⟨some 7, none, .ld (.r 6) 3 0 18 1 false⟩,
    ⟨some 8, none, .un .not (.r 7)⟩,
    ⟨some 9, none, .fad (.r 3) 0⟩,
    ⟨none, none, .st (.r 9) 3 0 18 1 (.r 8)⟩]) 
  (.seq (.reg [⟨some 10, none, .ld (.r 2) 2 0 15 3 true⟩,
    ⟨some 11, none, .ld (.r 3) 3 0 18 3 true⟩,
    ⟨some 12, none, .call false false 60 [(.r 10), (.r 11)]⟩,
    ⟨some 13, none, .ext (.r 12) 0⟩,
    ⟨some 14, none, .ext (.r 12) 1⟩,
    ⟨none, none, .st (.r 4) 4 0 21 3 (.r 13)⟩,
    ⟨some 5, none, .mov (.r 14)⟩]) 
  (.ret))),
  [.cell 4 4 21 3, .tmp 5]⟩
theorem chk41 : chkF Tryd.prog 41 ir41 = true := by kernel_rfl
/-- vernier/pivot.swap -/
def ir44 : FnIr := ⟨⟨45, 48, 48, [(3, 45, 3)]⟩,
  .seq (.reg [⟨some 3, none, .box 45 3 (.r 0)⟩]) 
  (.seq (.reg [⟨some 9, none, .fad (.r 3) 1⟩,
    ⟨some 10, none, .ld (.r 9) 3 1 46 1 false⟩,
    ⟨some 11, none, .mov (.i .i64 0)⟩]) 
  (.block 0 (.kil ⟨[6, 7, 8, 12, 13, 14, 15, 16, 17, 18, 19, 20, 21, 22, 23, 24, 25, 26, 27, 28, 29, 30, 31, 32, 33, 34, 35, 36, 37, 38, 39, 40, 41, 42, 43, 44], [], [], []⟩ (.loop ⟨[6, 7, 8, 12, 13, 14, 15, 16, 17, 18, 19, 20, 21, 22, 23, 24, 25, 26, 27, 28, 29, 30, 31, 32, 33, 34, 35, 36, 37, 38, 39, 40, 41, 42, 43, 44], [], [], []⟩ (.seq (.reg [⟨some 12, none, .bin false .lss (.r 11) (.r 10)⟩]) 
    (.seq (.cond (.r 12)
    (.skip)
    (.exit 0)) 
    (.seq (.block 1 (.seq (.reg [⟨some 13, none, .mov (.r 11)⟩,
       ⟨some 6, none, .mov (.r 13)⟩]) 
     (.seq (.reg [⟨some 14, none, .mov (.r 1)⟩,
       ⟨some 15, none, .fad (.r 3) 1⟩,
       ⟨some 16, none, .ld (.r 15) 3 1 46 1 false⟩,
       ⟨some 17, none, .bin false .mul (.r 14) (.r 16)⟩,
       ⟨some 18, none, .mov (.r 6)⟩,
       ⟨some 19, none, .bin false .add (.r 17) (.r 18)⟩,
       ⟨some 20, none, .mov (.r 2)⟩,
       ⟨some 21, none, .fad (.r 3) 1⟩,
       ⟨some 22, none, .ld (.r 21) 3 1 46 1 false⟩,
       ⟨some 23, none, .bin false .mul (.r 20) (.r 22)⟩,
       ⟨some 24, none, .mov (.r 6)⟩,
       ⟨some 25, none, .bin false .add (.r 23) (.r 24)⟩,
       ⟨some 7, none, .mov (.r 19)⟩,
       ⟨some 8, none, .mov (.r 25)⟩]) 
     (.reg [⟨some 26, none, .fad (.r 3) 2⟩,
       ⟨some 27, none, .ld (.r 26) 3 2 47 1 false⟩,
       ⟨some 28, none, .mov (.r 7)⟩,
       ⟨some 29, none, .fad (.r 3) 2⟩,
       ⟨some 30, none, .ld (.r 29) 3 2 47 1 false⟩,
       ⟨some 31, none, .mov (.r 8)⟩,
       ⟨some 32, none, .fad (.r 3) 2⟩,
       ⟨some 33, none, .ld (.r 32) 3 2 47 1 false⟩,
       ⟨some 34, none, .mov (.r 8)⟩,
       ⟨some 35, none, .eat false (.r 33) (.r 34) 1⟩,
       ⟨some 36, none, .lde false (.r 35) 1 false⟩,
       ⟨some 37, none, .fad (.r 3) 2⟩,
       ⟨some 38, none, .ld (.r 37) 3 2 47 1 false⟩,
       ⟨some 39, none, .mov (.r 7)⟩,
       ⟨some 40, none, .eat false (.r 38) (.r 39) 1⟩,
       ⟨some 41, none, .lde false (.r 40) 1 false⟩,
       ⟨some 42, none, .eat false (.r 27) (.r 28) 1⟩,
       ⟨none, none, .ste (.r 42) false 1 (.r 36)⟩,
       ⟨some 43, none, .eat false (.r 30) (.r 31) 1⟩,
       ⟨none, none, .ste (.r 43) false 1 (.r 41)⟩])))) 
    (.reg [⟨some 44, none, .bin false .add (.r 11) (.i .i64 1)⟩,
      ⟨some 11, none, .mov (.r 44)⟩])))))))),
  []⟩
theorem chk44 : chkF Tryd.prog 44 ir44 = true := by kernel_rfl
/-- vernier/shape.Check -/
def ir45 : FnIr := ⟨⟨24, 27, 27, [(1, 24, 3)]⟩,
  .seq (.reg [⟨some 1, none, .box 24 3 (.r 0)⟩,
    ⟨some 2, none, .mov (.i .i64 0)⟩]) 
  (.seq (.seq (.reg [⟨some 3, none, .fad (.r 1) 0⟩,
    ⟨some 4, none, .ld (.r 3) 1 0 24 1 false⟩,
    ⟨some 5, none, .call false false 66 [(.r 4)]⟩,
    ⟨some 6, none, .un .not (.r 5)⟩,
    ⟨some 7, none, .mov (.r 6)⟩,
    ⟨some 8, some (7, false), .fad (.r 1) 1⟩,
    ⟨some 9, some (7, false), .ld (.r 8) 1 1 25 1 false⟩,
    ⟨some 10, some (7, false), .call false false 66 [(.r 9)]⟩,
    ⟨some 11, some (7, false), .un .not (.r 10)⟩,
    ⟨some 12, none, .pick (.r 7) (.b true) (.r 11)⟩,
    ⟨some 13, none, .mov (.r 12)⟩,
    ⟨some 14, some (13, false), .fad (.r 1) 2⟩,
    ⟨some 15, some (13, false), .ld (.r 14) 1 2 26 1 false⟩,
    ⟨some 16, some (13, false), .len false (.r 15)⟩,
    ⟨some 17, some (13, false), .fad (.r 1) 0⟩,
    ⟨some 18, some (13, false), .ld (.r 17) 1 0 24 1 false⟩,
    ⟨some 19, some (13, false), .fad (.r 1) 1⟩,
    ⟨some 20, some (13, false), .ld (.r 19) 1 1 25 1 false⟩,
    ⟨some 21, some (13, false), .bin false .mul (.r 18) (.r 20)⟩,
    ⟨some 22, some (13, false), .bin false .neq (.r 16) (.r 21)⟩,
    ⟨some 23, none, .pick (.r 13) (.b true) (.r 22)⟩]) 
  (.cond (.r 23)
  (.seq (.reg [⟨some 2, none, .mov (.i .i64 11)⟩]) 
   (.ret))
  (.skip))) 
  (.seq (.reg [⟨some 2, none, .mov (.i .i64 0)⟩]) 
  (.ret))),
  [.tmp 2]⟩
theorem chk45 : chkF Tryd.prog 45 ir45 = true := by kernel_rfl
/-- vernier/tri.Half -/
def ir46 : FnIr := ⟨⟨72, 81, 82, [(3, 72, 3), (6, 75, 3), (9, 78, 3)]⟩,
  .seq (.reg [⟨some 3, none, .box 72 3 (.r 0)⟩,
    ⟨some 6, none, .mk 75 [.int .i64 0, .int .i64 0, .nil0]⟩,
    ⟨some 7, none, .mov (.i .i64 0)⟩]) 
  (.seq (.seq (.reg [⟨some 14, none, .ld (.r 3) 3 0 72 3 true⟩,
    ⟨some 15, none, .call false false 45 [(.r 14)]⟩,
    ⟨some 8, none, .mov (.r 15)⟩]) 
  (.seq (.reg [⟨some 16, none, .mov (.r 8)⟩,
    ⟨some 17, none, .bin false .neq (.r 16) (.i .i64 0)⟩]) 
  (.cond (.r 17)
  (.seq (.reg [⟨some 18, none, .bld [] [.int .i64 0, .int .i64 0, .nil0]⟩,
     ⟨some 19, none, .mov (.r 8)⟩,
     ⟨none, none, .st (.r 6) 6 0 75 3 (.r 18)⟩,
     ⟨some 7, none, .mov (.r 19)⟩]) 
   (.ret))
  (.skip)))) 
  (.seq (.reg [⟨some 21, none, .fad (.r 3) 0⟩,
    ⟨some 22, none, .ld (.r 21) 3 0 72 1 false⟩,
    ⟨some 23, none, .fad (.r 3) 1⟩,
    ⟨some 24, none, .ld (.r 23) 3 1 73 1 false⟩,
    ⟨some 25, none, .callf 0 62 [(.r 22), (.r 24)]⟩,
    ⟨some 20, none, .mov (.r 25)⟩,
    ⟨some 26, none, .ext (.r 20) 0⟩,
    ⟨some 27, none, .ext (.r 20) 1⟩,
    ⟨some 9, none, .mk 78 [.int .i64 0, .int .i64 0, .nil0]⟩,
    ⟨none, none, .st (.r 9) 9 0 78 3 (.r 26)⟩,
    ⟨some 10, none, .mov (.r 27)⟩]) 
  (.seq (.seq (.reg [⟨some 28, none, .fad (.r 3) 0⟩,
    ⟨some 29, none, .ld (.r 28) 3 0 72 1 false⟩,
    ⟨some 30, none, .mov (.i .i64 0)⟩]) 
  (.block 0 (.kil ⟨[11, 12, 13, 31, 32, 33, 34, 35, 36, 37, 38, 39, 40, 41, 42, 43, 44, 45, 46, 47, 48, 49, 50, 51, 52, 53, 54, 55, 56, 57, 58, 59, 60, 61, 62, 63, 64, 65, 66, 67, 68, 69, 70], [], [], []⟩ (.loop ⟨[11, 12, 13, 31, 32, 33, 34, 35, 36, 37, 38, 39, 40, 41, 42, 43, 44, 45, 46, 47, 48, 49, 50, 51, 52, 53, 54, 55, 56, 57, 58, 59, 60, 61, 62, 63, 64, 65, 66, 67, 68, 69, 70], [], [], []⟩ (.seq (.reg [⟨some 31, none, .bin false .lss (.r 30) (.r 29)⟩]) 
    (.seq (.cond (.r 31)
    (.skip)
    (.exit 0)) 
    (.seq (.block 1 (.seq (.reg [⟨some 32, none, .mov (.r 30)⟩,
       ⟨some 11, none, .mov (.r 32)⟩]) 
     (.seq (.reg [⟨some 33, none, .fad (.r 3) 1⟩,
       ⟨some 34, none, .ld (.r 33) 3 1 73 1 false⟩,
       ⟨some 35, none, .mov (.i .i64 0)⟩]) 
     (.block 2 (.kil ⟨[12, 13, 36, 37, 38, 39, 40, 41, 42, 43, 44, 45, 46, 47, 48, 49, 50, 51, 52, 53, 54, 55, 56, 57, 58, 59, 60, 61, 62, 63, 64, 65, 66, 67, 68, 69], [], [], []⟩ (.loop ⟨[12, 13, 36, 37, 38, 39, 40, 41, 42, 43, 44, 45, 46, 47, 48, 49, 50, 51, 52, 53, 54, 55, 56, 57, 58, 59, 60, 61, 62, 63, 64, 65, 66, 67, 68, 69], [], [], []⟩ (.seq (.reg [⟨some 36, none, .bin false .lss (.r 35) (.r 34)⟩]) 
       (.seq (.cond (.r 36)
       (.skip)
       (.exit 2)) 
       (.seq (.block 3 (.seq (.reg [⟨some 37, none, .mov (.r 35)⟩,
          ⟨some 12, none, .mov (.r 37)⟩]) 
        (.seq (.reg [⟨some 38, none, .mov (.r 11)⟩,
          ⟨some 39, none, .fad (.r 3) 1⟩,
          ⟨some 40, none, .ld (.r 39) 3 1 73 1 false⟩,
          ⟨some 41, none, .bin false .mul (.r 38) (.r 40)⟩,
          ⟨some 42, none, .mov (.r 12)⟩,
          ⟨some 43, none, .bin false .add (.r 41) (.r 42)⟩,
          ⟨some 13, none, .mov (.r 43)⟩]) 
        (.block 4 (.seq (.reg [⟨some 45, none, .mov (.r 11)⟩,
           ⟨some 46, none, .mov (.r 12)⟩,
           ⟨some 47, none, .bin false .eql (.r 45) (.r 46)⟩,
           ⟨some 48, none, .mov (.r 47)⟩,
           ⟨some 49, some (48, true), .mov (.r 2)⟩,
           ⟨some 50, none, .pick (.r 48) (.r 49) (.b false)⟩,
           ⟨some 44, none, .mov (.r 50)⟩]) 
         (.cond (.r 44)
         (.reg [⟨some 51, none, .fad (.r 9) 2⟩,
            ⟨some 52, none, .ld (.r 51) 9 2 80 1 false⟩,
            ⟨some 53, none, .mov (.r 13)⟩,
            ⟨some 54, none, .eat true (.r 52) (.r 53) 1⟩,
            ⟨none, none, .ste (.r 54) false 1 (.i .u64 4607182418800017408)⟩])
         (.seq (.reg [⟨some 56, none, .mov (.r 11)⟩,
            ⟨some 57, none, .mov (.r 12)⟩,
            ⟨some 58, none, .mov (.r 1)⟩,
            ⟨some 59, none, .call false false 67 [(.r 56), (.r 57), (.r 58)]⟩,
            ⟨some 55, none, .mov (.r 59)⟩]) 
          (.cond (.r 55)
          (.reg [⟨some 60, none, .fad (.r 9) 2⟩,
             ⟨some 61, none, .ld (.r 60) 9 2 80 1 false⟩,
             ⟨some 62, none, .mov (.r 13)⟩,
             ⟨some 63, none, .fad (.r 3) 2⟩,
             ⟨some 64, none, .ld (.r 63) 3 2 74 1 false⟩,
             ⟨some 65, none, .mov (.r 13)⟩,
             ⟨some 66, none, .eat false (.r 64) (.r 65) 1⟩,
             ⟨some 67, none, .lde false (.r 66) 1 false⟩,
             ⟨some 68, none, .eat true (.r 61) (.r 62) 1⟩,
             ⟨none, none, .ste (.r 68) false 1 (.r 67)⟩])
          (.skip))))))))) 
       (.reg [⟨some 69, none, .bin false .add (.r 35) (.i .i64 1)⟩,
         ⟨some 35, none, .mov (.r 69)⟩])))))))))) 
    (.reg [⟨some 70, none, .bin false .add (.r 30) (.i .i64 1)⟩,
      ⟨some 30, none, .mov (.r 70)⟩])))))))) 
  (.seq (.reg [⟨some 71, none, .ld (.r 9) 9 0 78 3 true⟩,
    ⟨none, none, .st (.r 6) 6 0 75 3 (.r 71)⟩,
    ⟨some 7, none, .mov (.i .i64 0)⟩]) 
  (.ret))))),
  [.cell 6 6 75 3, .tmp 7]⟩
theorem chk46 : chkF Tryd.prog 46 ir46 = true := by kernel_rfl
/-- vernier/mat.Cut -/
def ir47 : FnIr := ⟨⟨59, 68, 69, [(5, 59, 3), (10, 62, 3), (13, 65, 3)]⟩,
  .seq (.reg [⟨some 5, none, .box 59 3 (.r 0)⟩,
    ⟨some 10, none, .mk 62 [.int .i64 0, .int .i64 0, .nil0]⟩,
    ⟨some 11, none, .mov (.i .i64 0)⟩]) 
  (.seq (.seq (.reg [⟨some 15, none, .ld (.r 5) 5 0 59 3 true⟩,
    ⟨some 16, none, .call false false 45 [(.r 15)]⟩,
    ⟨some 12, none, .mov (.r 16)⟩]) 
  (.seq (.reg [⟨some 17, none, .mov (.r 12)⟩,
    ⟨some 18, none, .bin false .neq (.r 17) (.i .i64 0)⟩]) 
  (.cond (.r 18)
  (.seq (.reg [⟨some 19, none, .bld [] [.int .i64 0, .int .i64 0, .nil0]⟩,
     ⟨some 20, none, .mov (.r 12)⟩,
     ⟨none, none, .st (.r 10) 10 0 62 3 (.r 19)⟩,
     ⟨some 11, none, .mov (.r 20)⟩]) 
   (.ret))
  (.skip)))) 
  (.seq (.seq (.reg [⟨some 21, none, .mov (.r 1)⟩,
    ⟨some 22, none, .mov (.r 3)⟩,
    ⟨some 23, none, .fad (.r 5) 0⟩,
    ⟨some 24, none, .ld (.r 23) 5 0 59 1 false⟩,
    ⟨some 25, none, .call false false 68 [(.r 21), (.r 22), (.r 24)]⟩,
    ⟨some 26, none, .un .not (.r 25)⟩,
    ⟨some 27, none, .mov (.r 26)⟩,
    ⟨some 28, some (27, false), .mov (.r 2)⟩,
    ⟨some 29, some (27, false), .mov (.r 4)⟩,
    ⟨some 30, some (27, false), .fad (.r 5) 1⟩,
    ⟨some 31, some (27, false), .ld (.r 30) 5 1 60 1 false⟩,
    ⟨some 32, some (27, false), .call false false 68 [(.r 28), (.r 29), (.r 31)]⟩,
    ⟨some 33, some (27, false), .un .not (.r 32)⟩,
    ⟨some 34, none, .pick (.r 27) (.b true) (.r 33)⟩]) 
  (.cond (.r 34)
  (.seq (.reg [⟨some 35, none, .bld [] [.int .i64 0, .int .i64 0, .nil0]⟩,
     ⟨none, none, .st (.r 10) 10 0 62 3 (.r 35)⟩,
     ⟨some 11, none, .mov (.i .i64 4)⟩]) 
   (.ret))
  (.skip))) 
  (.seq (.reg [⟨some 36, none, .mov (.r 3)⟩,
    ⟨some 37, none, .mov (.r 4)⟩,
    ⟨some 38, none, .bld [(0, 1, (.r 36)), (1, 1, (.r 37))] [.int .i64 0, .int .i64 0, .nil0]⟩,
    ⟨some 13, none, .mk 65 [.int .i64 0, .int .i64 0, .nil0]⟩,
    ⟨none, none, .st (.r 13) 13 0 65 3 (.r 38)⟩]) 
  (.seq (.seq (.reg [⟨some 39, none, .mov (.r 3)⟩,
    ⟨some 40, none, .mov (.i .i64 0)⟩]) 
  (.block 0 (.kil ⟨[14, 41, 42, 43, 44, 45, 46, 47, 48, 49, 50, 51, 52, 53, 54, 55, 56, 57], [], [], []⟩ (.loop ⟨[14, 41, 42, 43, 44, 45, 46, 47, 48, 49, 50, 51, 52, 53, 54, 55, 56, 57], [], [], []⟩ (.seq (.reg [⟨some 41, none, .bin false .lss (.r 40) (.r 39)⟩]) 
    (.seq (.cond (.r 41)
    (.skip)
    (.exit 0)) 
    (.seq (.block 1 (.seq (.reg [⟨some 42, none, .mov (.r 40)⟩,
       ⟨some 14, none, .mov (.r 42)⟩]) 
     (.reg [⟨some 43, none, .fad (.r 13) 2⟩,
       ⟨some 44, none, .ld (.r 43) 13 2 67 1 false⟩,
       ⟨some 45, none, .ld (.r 5) 5 0 59 3 true⟩,
       ⟨some 46, none, .mov (.r 1)⟩,
       ⟨some 47, none, .mov (.r 14)⟩,
       ⟨some 48, none, .bin false .add (.r 46) (.r 47)⟩,
       ⟨some 49, none, .call false false 69 [(.r 45), (.r 48)]⟩,
       ⟨some 50, none, .mov (.r 2)⟩,
       ⟨some 51, none, .mov (.r 2)⟩,
       ⟨some 52, none, .mov (.r 4)⟩,
       ⟨some 53, none, .bin false .add (.r 51) (.r 52)⟩,
       ⟨some 54, none, .slc 1 (.r 49) (some (.r 50)) (some (.r 53))⟩,
       ⟨some 55, none, .app (.r 44) (.r 54) 0 1 8 38⟩,
       ⟨some 56, none, .fad (.r 13) 2⟩,
       ⟨none, none, .st (.r 56) 13 2 67 1 (.r 55)⟩]))) 
    (.reg [⟨some 57, none, .bin false .add (.r 40) (.i .i64 1)⟩,
      ⟨some 40, none, .mov (.r 57)⟩])))))))) 
  (.seq (.reg [⟨some 58, none, .ld (.r 13) 13 0 65 3 true⟩,
    ⟨none, none, .st (.r 10) 10 0 62 3 (.r 58)⟩,
    ⟨some 11, none, .mov (.i .i64 0)⟩]) 
  (.ret)))))),
  [.cell 10 10 62 3, .tmp 11]⟩
theorem chk47 : chkF Tryd.prog 47 ir47 = true := by kernel_rfl
/-- vernier/resid.sub -/
def ir48 : FnIr := ⟨⟨14, 26, 26, [(2, 14, 3), (3, 17, 3), (4, 20, 3), (5, 23, 3)]⟩,
  .seq (.reg [⟨some 2, none, .box 14 3 (.r 0)⟩,
    ⟨some 3, none, .box 17 3 (.r 1)⟩,
    ⟨some 4, none, .mk 20 [.bool false, .nil0, .int .i64 0]⟩]) 
  (.seq (.reg [⟨some 8, none, .ld (.r 2) 2 0 14 3 true⟩,
    ⟨some 9, none, .ld (.r 3) 3 0 17 3 true⟩,
    ⟨some 10, none, .call false false 41 [(.r 8), (.r 9)]⟩,
    ⟨some 7, none, .mov (.r 10)⟩,
    ⟨some 11, none, .ext (.r 7) 0⟩,
    ⟨some 12, none, .ext (.r 7) 1⟩,
    ⟨some 5, none, .mk 23 [.bool false, .nil0, .int .i64 0]⟩,
    ⟨none, none, .st (.r 5) 5 0 23 3 (.r 11)⟩,
    ⟨some 6, none, .mov (.r 12)⟩]) 
  (.seq (.reg [⟨some 13, none, .ld (.r 5) 5 0 23 3 true⟩,
    ⟨none, none, .st (.r 4) 4 0 20 3 (.r 13)⟩]) 
  (.ret))),
  [.cell 4 4 20 3]⟩
theorem chk48 : chkF Tryd.prog 48 ir48 = true := by kernel_rfl
/-- vernier/resid.add -/
def ir49 : FnIr := ⟨⟨14, 26, 26, [(2, 14, 3), (3, 17, 3), (4, 20, 3), (5, 23, 3)]⟩,
  .seq (.reg [⟨some 2, none, .box 14 3 (.r 0)⟩,
    ⟨some 3, none, .box 17 3 (.r 1)⟩,
    ⟨some 4, none, .mk 20 [.bool false, .nil0, .int .i64 0]⟩]) 
  (.seq (.reg [⟨some 8, none, .ld (.r 2) 2 0 14 3 true⟩,
    ⟨some 9, none, .ld (.r 3) 3 0 17 3 true⟩,
    ⟨some 10, none, .call false false 60 [(.r 8), (.r 9)]⟩,
    ⟨some 7, none, .mov (.r 10)⟩,
    ⟨some 11, none, .ext (.r 7) 0⟩,
    ⟨some 12, none, .ext (.r 7) 1⟩,
    ⟨some 5, none, .mk 23 [.bool false, .nil0, .int .i64 0]⟩,
    ⟨none, none, .st (.r 5) 5 0 23 3 (.r 11)⟩,
    ⟨some 6, none, .mov (.r 12)⟩]) 
  (.seq (.reg [⟨some 13, none, .ld (.r 5) 5 0 23 3 true⟩,
    ⟨none, none, .st (.r 4) 4 0 20 3 (.r 13)⟩]) 
  (.ret))),
  [.cell 4 4 20 3]⟩
theorem chk49 : chkF Tryd.prog 49 ir49 = true := by kernel_rfl
/-- vernier/resid.mul -/
def ir50 : FnIr := ⟨⟨14, 26, 26, [(2, 14, 3), (3, 17, 3), (4, 20, 3), (5, 23, 3)]⟩,
  .seq (.reg [⟨some 2, none, .box 14 3 (.r 0)⟩,
    ⟨some 3, none, .box 17 3 (.r 1)⟩,
    ⟨some 4, none, .mk 20 [.bool false, .nil0, .int .i64 0]⟩]) 
  (.seq (.reg [⟨some 8, none, .ld (.r 2) 2 0 14 3 true⟩,
    ⟨some 9, none, .ld (.r 3) 3 0 17 3 true⟩,
    ⟨some 10, none, .call false false 61 [(.r 8), (.r 9)]⟩,
    ⟨some 7, none, .mov (.r 10)⟩,
    ⟨some 11, none, .ext (.r 7) 0⟩,
    ⟨some 12, none, .ext (.r 7) 1⟩,
    ⟨some 5, none, .mk 23 [.bool false, .nil0, .int .i64 0]⟩,
    ⟨none, none, .st (.r 5) 5 0 23 3 (.r 11)⟩,
    ⟨some 6, none, .mov (.r 12)⟩]) 
  (.seq (.reg [⟨some 13, none, .ld (.r 5) 5 0 23 3 true⟩,
    ⟨none, none, .st (.r 4) 4 0 20 3 (.r 13)⟩]) 
  (.ret))),
  [.cell 4 4 20 3]⟩
theorem chk50 : chkF Tryd.prog 50 ir50 = true := by kernel_rfl
/-- (vernier/resid.grid).at -/
def ir51 : FnIr := ⟨⟨22, 28, 28, [(3, 22, 3), (6, 25, 3)]⟩,
  .seq (.reg [⟨some 3, none, .box 22 3 (.r 0)⟩,
    ⟨some 6, none, .mk 25 [.bool false, .nil0, .int .i64 0]⟩]) 
  (.seq (.seq (.reg [⟨some 7, none, .mov (.r 1)⟩,
    ⟨some 8, none, .fad (.r 3) 0⟩,
    ⟨some 9, none, .ld (.r 8) 3 0 22 1 false⟩,
    ⟨some 10, none, .bin false .geq (.r 7) (.r 9)⟩]) 
  (.cond (.r 10)
  (.seq (.reg [⟨some 11, none, .bld [] [.bool false, .nil0, .int .i64 0]⟩,
     ⟨none, none, .st (.r 6) 6 0 25 3 (.r 11)⟩]) 
   (.ret))
  (.skip))) 
  (.seq (.reg [⟨some 12, none, .fad (.r 3) 2⟩,
    ⟨some 13, none, .ld (.r 12) 3 2 24 1 false⟩,
    ⟨some 14, none, .mov (.r 1)⟩,
    ⟨some 15, none, .fad (.r 3) 1⟩,
    ⟨some 16, none, .ld (.r 15) 3 1 23 1 false⟩,
    ⟨some 17, none, .bin false .mul (.r 14) (.r 16)⟩,
    ⟨some 18, none, .mov (.r 2)⟩,
    ⟨some 19, none, .bin false .add (.r 17) (.r 18)⟩,
    ⟨some 20, none, .eat false (.r 13) (.r 19) 3⟩,
    ⟨some 21, none, .lde false (.r 20) 3 true⟩,
    ⟨none, none, .st (.r 6) 6 0 25 3 (.r 21)⟩]) 
  (.ret))),
  [.cell 6 6 25 3]⟩
theorem chk51 : chkF Tryd.prog 51 ir51 = true := by kernel_rfl
/-- slices.ContainsFunc[[]uint64,uint64] -/
def ir52 : FnIr := ⟨⟨9, 9, 9, []⟩,
  .seq (.reg [⟨some 4, none, .mov (.b false)⟩]) 
  (.seq (.reg [⟨some 5, none, .mov (.r 0)⟩,
    ⟨some 6, none, .mov (.r 1)⟩,
    ⟨some 7, none, .call false false 70 [(.r 5), (.r 6)]⟩,
    ⟨some 8, none, .bin false .geq (.r 7) (.i .i64 0)⟩,
    ⟨some 4, none, .mov (.r 8)⟩]) 
  (.ret)),
  [.tmp 4]⟩
theorem chk52 : chkF Tryd.prog 52 ir52 = true := by kernel_rfl
/-- vernier/dyadic.Norm -/
def ir55 : FnIr := ⟨⟨18, 24, 24, [(1, 18, 3), (2, 21, 3)]⟩,
  .seq (.reg [⟨some 1, none, .box 18 3 (.r 0)⟩,
    ⟨some 2, none, .mk 21 [.bool false, .nil0, .int .i64 0]⟩,
    ⟨some 3, none, .mov (.i .i64 0)⟩]) 
  (.seq (.seq (.reg [⟨some 5, none, .ld (.r 1) 1 0 18 3 true⟩,
    ⟨some 6, none, .call false false 71 [(.r 5)]⟩,
    ⟨some 4, none, .mov (.r 6)⟩]) 
  (.seq (.reg [⟨some 7, none, .mov (.r 4)⟩,
    ⟨some 8, none, .bin false .neq (.r 7) (.i .i64 0)⟩]) 
  (.cond (.r 8)
  (.seq (.reg [⟨some 9, none, .bld [] [.bool false, .nil0, .int .i64 0]⟩,
     ⟨some 10, none, .mov (.r 4)⟩,
     ⟨none, none, .st (.r 2) 2 0 21 3 (.r 9)⟩,
     ⟨some 3, none, .mov (.r 10)⟩]) 
   (.ret))
  (.skip)))) 
  (.seq (.reg [⟨some 11, none, .ld (.r 1) 1 0 18 3 true⟩,
    ⟨some 12, none, .call false false 73 [(.r 11)]⟩,
    ⟨some 13, none, .fad (.r 1) 2⟩,
    ⟨some 14, none, .ld (.r 13) 1 2 20 1 false⟩,
    ⟨some 15, none, .call false false 72 [(.r 12), (.r 14)]⟩,
    ⟨some 16, none, .ext (.r 15) 0⟩,
    ⟨some 17, none, .ext (.r 15) 1⟩,
    ⟨none, none, .st (.r 2) 2 0 21 3 (.r 16)⟩,
    ⟨some 3, none, .mov (.r 17)⟩]) 
  (.ret))),
  [.cell 2 2 21 3, .tmp 3]⟩
theorem chk55 : chkF Tryd.prog 55 ir55 = true := by kernel_rfl
/-- vernier/dyadic.checked -/
def ir56 : FnIr := ⟨⟨18, 21, 21, [(4, 18, 3)]⟩,
  .seq (.reg [⟨some 2, none, .mov (.i .i64 0)⟩]) 
  (.seq (.seq (.reg [⟨some 6, none, .mov (.r 0)⟩,
    ⟨some 7, none, .len false (.r 6)⟩,
    ⟨some 8, none, .mov (.i .i64 0)⟩]) 
  (.block 0 (.kil ⟨[4, 5, 9, 10, 11, 12, 13, 14, 15, 16, 17, 18, 19, 20], [4], [], []⟩ (.loop ⟨[4, 5, 9, 10, 11, 12, 13, 14, 15, 16, 17, 18, 19, 20], [4], [], []⟩ (.seq (.reg [⟨some 9, none, .bin false .lss (.r 8) (.r 7)⟩]) 
    (.seq (.cond (.r 9)
    (.skip)
    (.exit 0)) 
    (.seq (.block 1 (.seq (.reg [⟨some 10, none, .eat false (.r 6) (.r 8) 3⟩,
       ⟨some 11, none, .lde false (.r 10) 3 true⟩,
       ⟨some 4, none, .mk 18 [.bool false, .nil0, .int .i64 0]⟩,
       ⟨none, none, .st (.r 4) 4 0 18 3 (.r 11)⟩]) 
     (.seq (.reg [⟨some 12, none, .ld (.r 4) 4 0 18 3 true⟩,
       ⟨some 13, none, .call false false 71 [(.r 12)]⟩,
       ⟨some 5, none, .mov (.r 13)⟩]) 
     (.seq (.reg [⟨some 14, none, .mov (.r 5)⟩,
       ⟨some 15, none, .bin false .neq (.r 14) (.i .i64 0)⟩]) 
     (.cond (.r 15)
     (.seq (.reg [⟨some 16, none, .mov (.r 5)⟩,
        ⟨some 2, none, .mov (.r 16)⟩]) 
      (.ret))
     (.skip)))))) 
    (.reg [⟨some 17, none, .bin false .add (.r 8) (.i .i64 1)⟩,
      ⟨some 8, none, .mov (.r 17)⟩])))))))) 
  (.seq (.reg [⟨some 2, none, .mov (.i .i64 0)⟩]) 
  (.ret))),
  [.tmp 2]⟩
theorem chk56 : chkF Tryd.prog 56 ir56 = true := by kernel_rfl
/-- vernier/dyadic.level -/
def ir57 : FnIr := ⟨⟨44, 58, 58, [(2, 44, 3), (3, 47, 3), (4, 50, 2), (5, 52, 2), (8, 54, 2), (9, 56, 2)]⟩,
  .seq (.reg [⟨some 2, none, .box 44 3 (.r 0)⟩,
    ⟨some 3, none, .box 47 3 (.r 1)⟩,
    ⟨some 4, none, .mk 50 [.bool false, .nil0]⟩,
    ⟨some 5, none, .mk 52 [.bool false, .nil0]⟩,
    ⟨some 6, none, .mov (.i .i64 0)⟩]) 
  (.seq (.reg [⟨some 10, none, .fad (.r 2) 2⟩,
    ⟨some 11, none, .ld (.r 10) 2 2 46 1 false⟩,
    ⟨some 12, none, .fad (.r 3) 2⟩,
    ⟨some 13, none, .ld (.r 12) 3 2 49 1 false⟩,
    ⟨some 14, none, .mm false (.r 11) (.r 13)⟩,
    ⟨some 7, none, .mov (.r 14)⟩]) 
  (.seq (.reg [⟨some 15, none, .ld (.r 2) 2 0 44 3 true⟩,
    ⟨some 16, none, .call false false 73 [(.r 15)]⟩,
    ⟨some 17, none, .ld (.r 3) 3 0 47 3 true⟩,
    ⟨some 18, none, .call false false 73 [(.r 17)]⟩,
    ⟨some 8, none, .mk 54 [.bool false, .nil0]⟩,
    ⟨some 9, none, .mk 56 [.bool false, .nil0]⟩,
    ⟨none, none, .st (.r 8) 8 0 54 2 (.r 16)⟩,
    ⟨none, none, .st (.r 9) 9 0 56 2 (.r 18)⟩]) 
  (.seq (.reg [⟨some 20, none, .fad (.r 2) 1⟩,
    ⟨some 21, none, .ld (.r 20) 2 1 45 1 false⟩,
    ⟨some 22, none, .fad (.r 2) 2⟩,
    ⟨some 23, none, .ld (.r 22) 2 2 46 1 false⟩,
    ⟨some 24, none, .mov (.r 7)⟩,
    ⟨some 25, none, .bin false .sub (.r 23) (.r 24)⟩,
    ⟨some 26, none, .call false false 74 [(.r 21), (.r 25)]⟩,
    ⟨some 19, none, .mov (.r 26)⟩,
    ⟨some 27, none, .ext (.r 19) 0⟩,
    ⟨some 28, none, .ext (.r 19) 1⟩,
    ⟨some 29, none, .fad (.r 8) 1⟩,
    ⟨none, none, .st (.r 29) 8 1 55 1 (.r 27)⟩]) 
  (.seq (.reg [⟨some 31, none, .fad (.r 3) 1⟩,
    ⟨some 32, none, .ld (.r 31) 3 1 48 1 false⟩,
    ⟨some 33, none, .fad (.r 3) 2⟩,
    ⟨some 34, none, .ld (.r 33) 3 2 49 1 false⟩,
    ⟨some 35, none, .mov (.r 7)⟩,
    ⟨some 36, none, .bin false .sub (.r 34) (.r 35)⟩,
    ⟨some 37, none, .call false false 74 [(.r 32), (.r 36)]⟩,
    ⟨some 30, none, .mov (.r 37)⟩,
    ⟨some 38, none, .ext (.r 30) 0⟩,
    ⟨some 39, none, .ext (.r 30) 1⟩,
    ⟨some 40, none, .fad (.r 9) 1⟩,
    ⟨none, none, .st (.r 40) 9 1 57 1 (.r 38)⟩]) 
  (.seq (.reg [⟨some 41, none, .ld (.r 8) 8 0 54 2 true⟩,
    ⟨some 42, none, .ld (.r 9) 9 0 56 2 true⟩,
    ⟨some 43, none, .mov (.r 7)⟩,
    ⟨none, none, .st (.r 4) 4 0 50 2 (.r 41)⟩,
    ⟨none, none, .st (.r 5) 5 0 52 2 (.r 42)⟩,
    ⟨some 6, none, .mov (.r 43)⟩]) 
  (.ret)))))),
  [.cell 4 4 50 2, .cell 5 5 52 2, .tmp 6]⟩
theorem chk57 : chkF Tryd.prog 57 ir57 = true := by kernel_rfl
/-- vernier/whole.Cmp -/
def ir58 : FnIr := ⟨⟨9, 13, 13, [(2, 9, 2), (3, 11, 2)]⟩,
  .seq (.reg [⟨some 2, none, .box 9 2 (.r 0)⟩,
    ⟨some 3, none, .box 11 2 (.r 1)⟩,
    ⟨some 4, none, .mov (.i .i64 0)⟩]) 
  (.seq (.reg [⟨some 5, none, .ld (.r 2) 2 0 9 2 true⟩,
    ⟨some 6, none, .ld (.r 3) 3 0 11 2 true⟩,
    ⟨some 7, none, .call false false 76 [(.r 5), (.r 6)]⟩,
    ⟨some 8, none, .call false false 75 [(.r 7)]⟩,
    ⟨some 4, none, .mov (.r 8)⟩]) 
  (.ret)),
  [.tmp 4]⟩
theorem chk58 : chkF Tryd.prog 58 ir58 = true := by kernel_rfl
/-- vernier/parts.Split -/
def ir59 : FnIr := ⟨⟨30, 30, 30, []⟩,
  .seq (.reg [⟨some 2, none, .mov (.b false)⟩,
    ⟨some 3, none, .mov (.i .u64 0)⟩,
    ⟨some 4, none, .mov (.i .i64 0)⟩,
    ⟨some 5, none, .mov (.i .i64 0)⟩]) 
  (.seq (.reg [⟨some 8, none, .mov (.r 0)⟩,
    ⟨some 9, none, .bin false .shr (.r 8) (.i .u64 52)⟩,
    ⟨some 10, none, .bin false .and (.r 9) (.i .u64 2047)⟩,
    ⟨some 11, none, .conv .i64 (.r 10)⟩,
    ⟨some 12, none, .mov (.r 0)⟩,
    ⟨some 13, none, .bin false .and (.r 12) (.i .u64 4503599627370495)⟩,
    ⟨some 6, none, .mov (.r 11)⟩,
    ⟨some 7, none, .mov (.r 13)⟩]) 
  (.seq (.seq (.reg [⟨some 14, none, .mov (.r 6)⟩]) 
  (.block 0 (.seq (.reg [⟨some 16, none, .bin false .eql (.r 14) (.i .i64 2047)⟩,
     ⟨some 15, none, .mov (.r 16)⟩]) 
   (.cond (.r 15)
   (.seq (.reg [⟨some 2, none, .mov (.b false)⟩,
      ⟨some 3, none, .mov (.i .u64 0)⟩,
      ⟨some 4, none, .mov (.i .i64 0)⟩,
      ⟨some 5, none, .mov (.i .i64 23)⟩]) 
    (.ret))
   (.seq (.reg [⟨some 18, none, .bin false .eql (.r 14) (.i .i64 0)⟩,
      ⟨some 17, none, .mov (.r 18)⟩]) 
    (.cond (.r 17)
    (.seq (.reg [⟨some 19, none, .mov (.r 0)⟩,
       ⟨some 20, none, .bin false .and (.r 19) (.i .u64 9223372036854775808)⟩,
       ⟨some 21, none, .bin false .neq (.r 20) (.i .u64 0)⟩,
       ⟨some 22, none, .mov (.r 7)⟩,
       ⟨some 2, none, .mov (.r 21)⟩,
       ⟨some 3, none, .mov (.r 22)⟩,
       ⟨some 4, none, .mov (.i .i64 (-1074))⟩,
       ⟨some 5, none, .mov (.i .i64 0)⟩]) 
     (.ret))
    (.skip))))))) 
  (.seq (.reg [⟨some 23, none, .mov (.r 0)⟩,
    ⟨some 24, none, .bin false .and (.r 23) (.i .u64 9223372036854775808)⟩,
    ⟨some 25, none, .bin false .neq (.r 24) (.i .u64 0)⟩,
    ⟨some 26, none, .mov (.r 7)⟩,
    ⟨some 27, none, .bin false .or (.r 26) (.i .u64 4503599627370496)⟩,
    ⟨some 28, none, .mov (.r 6)⟩,
    ⟨some 29, none, .bin false .sub (.r 28) (.i .i64 1075)⟩,
    ⟨some 2, none, .mov (.r 25)⟩,
    ⟨some 3, none, .mov (.r 27)⟩,
    ⟨some 4, none, .mov (.r 29)⟩,
    ⟨some 5, none, .mov (.i .i64 0)⟩]) 
  (.ret)))),
  [.tmp 2, .tmp 3, .tmp 4, .tmp 5]⟩
theorem chk59 : chkF Tryd.prog 59 ir59 = true := by kernel_rfl
/-- vernier/dyadic.Add -/
def ir60 : FnIr := ⟨⟨32, 45, 45, [(2, 32, 3), (3, 35, 3), (4, 38, 3), (7, 41, 2), (8, 43, 2)]⟩,
  .seq (.reg [⟨some 2, none, .box 32 3 (.r 0)⟩,
    ⟨some 3, none, .box 35 3 (.r 1)⟩,
    ⟨some 4, none, .mk 38 [.bool false, .nil0, .int .i64 0]⟩,
    ⟨some 5, none, .mov (.i .i64 0)⟩]) 
  (.seq (.seq (.reg [⟨some 10, none, .ld (.r 2) 2 0 32 3 true⟩,
    ⟨some 11, none, .ld (.r 3) 3 0 35 3 true⟩,
    ⟨some 12, none, .bsl 2 3 true [(0, 3, (.r 10)), (3, 3, (.r 11))] [.bool false, .nil0, .int .i64 0]⟩,
    ⟨some 13, none, .call false false 56 [(.r 12)]⟩,
    ⟨some 6, none, .mov (.r 13)⟩]) 
  (.seq (.reg [⟨some 14, none, .mov (.r 6)⟩,
    ⟨some 15, none, .bin false .neq (.r 14) (.i .i64 0)⟩]) 
  (.cond (.r 15)
  (.seq (.reg [⟨some 16, none, .bld [] [.bool false, .nil0, .int .i64 0]⟩,
     ⟨some 17, none, .mov (.r 6)⟩,
     ⟨none, none, .st (.r 4) 4 0 38 3 (.r 16)⟩,
     ⟨some 5, none, .mov (.r 17)⟩]) 
   (.ret))
  (.skip)))) 
  (.seq (.reg [⟨some 19, none, .ld (.r 2) 2 0 32 3 true⟩,
    ⟨some 20, none, .ld (.r 3) 3 0 35 3 true⟩,
    ⟨some 21, none, .call false false 57 [(.r 19), (.r 20)]⟩,
    ⟨some 18, none, .mov (.r 21)⟩,
    ⟨some 22, none, .ext (.r 18) 0⟩,
    ⟨some 23, none, .ext (.r 18) 1⟩,
    ⟨some 24, none, .ext (.r 18) 2⟩,
    ⟨some 7, none, .mk 41 [.bool false, .nil0]⟩,
    ⟨some 8, none, .mk 43 [.bool false, .nil0]⟩,
    ⟨none, none, .st (.r 7) 7 0 41 2 (.r 22)⟩,
    ⟨none, none, .st (.r 8) 8 0 43 2 (.r 23)⟩,
    ⟨some 9, none, .mov (.r 24)⟩]) 
  (.seq (.reg [⟨some 25, none, .ld (.r 7) 7 0 41 2 true⟩,
    ⟨some 26, none, .ld (.r 8) 8 0 43 2 true⟩,
    ⟨some 27, none, .call false false 77 [(.r 25), (.r 26)]⟩,
    ⟨some 28, none, .mov (.r 9)⟩,
    ⟨some 29, none, .call false false 72 [(.r 27), (.r 28)]⟩,
    ⟨some 30, none, .ext (.r 29) 0⟩,
    ⟨some 31, none, .ext (.r 29) 1⟩,
    ⟨none, none, .st (.r 4) 4 0 38 3 (.r 30)⟩,
    ⟨some 5, none, .mov (.r 31)⟩]) 
  (.ret)))),
  [.cell 4 4 38 3, .tmp 5]⟩
theorem chk60 : chkF Tryd.prog 60 ir60 = true := by kernel_rfl
/-- vernier/dyadic.Mul -/
def ir61 : FnIr := ⟨⟨28, 37, 37, [(2, 28, 3), (3, 31, 3), (4, 34, 3)]⟩,
  .seq (.reg [⟨some 2, none, .box 28 3 (.r 0)⟩,
    ⟨some 3, none, .box 31 3 (.r 1)⟩,
    ⟨some 4, none, .mk 34 [.bool false, .nil0, .int .i64 0]⟩,
    ⟨some 5, none, .mov (.i .i64 0)⟩]) 
  (.seq (.seq (.reg [⟨some 7, none, .ld (.r 2) 2 0 28 3 true⟩,
    ⟨some 8, none, .ld (.r 3) 3 0 31 3 true⟩,
    ⟨some 9, none, .bsl 2 3 true [(0, 3, (.r 7)), (3, 3, (.r 8))] [.bool false, .nil0, .int .i64 0]⟩,
    ⟨some 10, none, .call false false 56 [(.r 9)]⟩,
    ⟨some 6, none, .mov (.r 10)⟩]) 
  (.seq (.reg [⟨some 11, none, .mov (.r 6)⟩,
    ⟨some 12, none, .bin false .neq (.r 11) (.i .i64 0)⟩]) 
  (.cond (.r 12)
  (.seq (.reg [⟨some 13, none, .bld [] [.bool false, .nil0, .int .i64 0]⟩,
     ⟨some 14, none, .mov (.r 6)⟩,
     ⟨none, none, .st (.r 4) 4 0 34 3 (.r 13)⟩,
     ⟨some 5, none, .mov (.r 14)⟩]) 
   (.ret))
  (.skip)))) 
  (.seq (.reg [⟨some 15, none, .ld (.r 2) 2 0 28 3 true⟩,
    ⟨some 16, none, .call false false 73 [(.r 15)]⟩,
    ⟨some 17, none, .ld (.r 3) 3 0 31 3 true⟩,
    ⟨some 18, none, .call false false 73 [(.r 17)]⟩,
    ⟨some 19, none, .call false false 78 [(.r 16), (.r 18)]⟩,
    ⟨some 20, none, .fad (.r 2) 2⟩,
    ⟨some 21, none, .ld (.r 20) 2 2 30 1 false⟩,
    ⟨some 22, none, .fad (.r 3) 2⟩,
    ⟨some 23, none, .ld (.r 22) 3 2 33 1 false⟩,
    ⟨some 24, none, .bin false .add (.r 21) (.r 23)⟩,
    ⟨some 25, none, .call false false 72 [(.r 19), (.r 24)]⟩,
    ⟨some 26, none, .ext (.r 25) 0⟩,
    ⟨some 27, none, .ext (.r 25) 1⟩,
    ⟨none, none, .st (.r 4) 4 0 34 3 (.r 26)⟩,
    ⟨some 5, none, .mov (.r 27)⟩]) 
  (.ret))),
  [.cell 4 4 34 3, .tmp 5]⟩
theorem chk61 : chkF Tryd.prog 61 ir61 = true := by kernel_rfl
/-- slices.ContainsFunc[[]int,int] -/
def ir63 : FnIr := ⟨⟨9, 9, 9, []⟩,
  .seq (.reg [⟨some 4, none, .mov (.b false)⟩]) 
  (.seq (.reg [⟨some 5, none, .mov (.r 0)⟩,
    ⟨some 6, none, .mov (.r 1)⟩,
    ⟨some 7, none, .call false false 79 [(.r 5), (.r 6)]⟩,
    ⟨some 8, none, .bin false .geq (.r 7) (.i .i64 0)⟩,
    ⟨some 4, none, .mov (.r 8)⟩]) 
  (.ret)),
  [.tmp 4]⟩
theorem chk63 : chkF Tryd.prog 63 ir63 = true := by kernel_rfl
/-- vernier/shape.side -/
def ir66 : FnIr := ⟨⟨9, 9, 9, []⟩,
  .seq (.reg [⟨some 2, none, .mov (.b false)⟩]) 
  (.seq (.reg [⟨some 3, none, .mov (.r 0)⟩,
    ⟨some 4, none, .bin false .geq (.r 3) (.i .i64 1)⟩,
    ⟨some 5, none, .mov (.r 4)⟩,
    ⟨some 6, some (5, true), .mov (.r 0)⟩,
    ⟨some 7, some (5, true), .bin false .leq (.r 6) (.i .i64 64)⟩,
    ⟨some 8, none, .pick (.r 5) (.r 7) (.b false)⟩,
    ⟨some 2, none, .mov (.r 8)⟩]) 
  (.ret)),
  [.tmp 2]⟩
theorem chk66 : chkF Tryd.prog 66 ir66 = true := by kernel_rfl
/-- vernier/tri.counts -/
def ir67 : FnIr := ⟨⟨14, 14, 14, []⟩,
  .seq (.reg [⟨some 6, none, .mov (.b false)⟩]) 
  (.seq (.seq (.reg [⟨some 7, none, .mov (.r 2)⟩]) 
  (.cond (.r 7)
  (.seq (.reg [⟨some 8, none, .mov (.r 0)⟩,
     ⟨some 9, none, .mov (.r 1)⟩,
     ⟨some 10, none, .bin false .leq (.r 8) (.r 9)⟩,
     ⟨some 6, none, .mov (.r 10)⟩]) 
   (.ret))
  (.skip))) 
  (.seq (.reg [⟨some 11, none, .mov (.r 0)⟩,
    ⟨some 12, none, .mov (.r 1)⟩,
    ⟨some 13, none, .bin false .geq (.r 11) (.r 12)⟩,
    ⟨some 6, none, .mov (.r 13)⟩]) 
  (.ret))),
  [.tmp 6]⟩
theorem chk67 : chkF Tryd.prog 67 ir67 = true := by kernel_rfl
/-- vernier/mat.within -/
def ir68 : FnIr := ⟨⟨25, 25, 25, []⟩,
  .seq (.reg [⟨some 6, none, .mov (.b false)⟩]) 
  (.seq (.reg [⟨some 7, none, .mov (.r 0)⟩,
    ⟨some 8, none, .bin false .geq (.r 7) (.i .i64 0)⟩,
    ⟨some 9, none, .mov (.r 8)⟩,
    ⟨some 10, some (9, true), .mov (.r 1)⟩,
    ⟨some 11, some (9, true), .bin false .geq (.r 10) (.i .i64 1)⟩,
    ⟨some 12, none, .pick (.r 9) (.r 11) (.b false)⟩,
    ⟨some 13, none, .mov (.r 12)⟩,
    ⟨some 14, some (13, true), .mov (.r 0)⟩,
    ⟨some 15, some (13, true), .mov (.r 2)⟩,
    ⟨some 16, some (13, true), .bin false .leq (.r 14) (.r 15)⟩,
    ⟨some 17, none, .pick (.r 13) (.r 16) (.b false)⟩,
    ⟨some 18, none, .mov (.r 17)⟩,
    ⟨some 19, some (18, true), .mov (.r 1)⟩,
    ⟨some 20, some (18, true), .mov (.r 2)⟩,
    ⟨some 21, some (18, true), .mov (.r 0)⟩,
    ⟨some 22, some (18, true), .bin false .sub (.r 20) (.r 21)⟩,
    ⟨some 23, some (18, true), .bin false .leq (.r 19) (.r 22)⟩,
    ⟨some 24, none, .pick (.r 18) (.r 23) (.b false)⟩,
    ⟨some 6, none, .mov (.r 24)⟩]) 
  (.ret)),
  [.tmp 6]⟩
theorem chk68 : chkF Tryd.prog 68 ir68 = true := by kernel_rfl
/-- vernier/mat.row -/
def ir69 : FnIr := ⟨⟨17, 20, 20, [(2, 17, 3)]⟩,
  .seq (.reg [⟨some 2, none, .box 17 3 (.r 0)⟩,
    ⟨some 4, none, .mov .nil⟩]) 
  (.seq (.reg [⟨some 5, none, .fad (.r 2) 2⟩,
    ⟨some 6, none, .ld (.r 5) 2 2 19 1 false⟩,
    ⟨some 7, none, .mov (.r 1)⟩,
    ⟨some 8, none, .fad (.r 2) 1⟩,
    ⟨some 9, none, .ld (.r 8) 2 1 18 1 false⟩,
    ⟨some 10, none, .bin false .mul (.r 7) (.r 9)⟩,
    ⟨some 11, none, .mov (.r 1)⟩,
    ⟨some 12, none, .bin false .add (.r 11) (.i .i64 1)⟩,
    ⟨some 13, none, .fad (.r 2) 1⟩,
    ⟨some 14, none, .ld (.r 13) 2 1 18 1 false⟩,
    ⟨some 15, none, .bin false .mul (.r 12) (.r 14)⟩,
    ⟨some 16, none, .slc 1 (.r 6) (some (.r 10)) (some (.r 15))⟩,
    ⟨some 4, none, .mov (.r 16)⟩]) 
  (.ret)),
  [.tmp 4]⟩
theorem chk69 : chkF Tryd.prog 69 ir69 = true := by kernel_rfl
/-- vernier/dyadic.Check -/
def ir71 : FnIr := ⟨⟨17, 20, 20, [(1, 17, 3)]⟩,
  .seq (.reg [⟨some 1, none, .box 17 3 (.r 0)⟩,
    ⟨some 2, none, .mov (.i .i64 0)⟩]) 
  (.seq (.seq (.reg [⟨some 3, none, .fad (.r 1) 2⟩,
    ⟨some 4, none, .ld (.r 3) 1 2 19 1 false⟩,
    ⟨some 5, none, .bin false .lss (.r 4) (.i .i64 (-16384))⟩,
    ⟨some 6, none, .mov (.r 5)⟩,
    ⟨some 7, some (6, false), .fad (.r 1) 2⟩,
    ⟨some 8, some (6, false), .ld (.r 7) 1 2 19 1 false⟩,
    ⟨some 9, some (6, false), .bin false .gtr (.r 8) (.i .i64 16384)⟩,
    ⟨some 10, none, .pick (.r 6) (.b true) (.r 9)⟩,
    ⟨some 11, none, .mov (.r 10)⟩,
    ⟨some 12, some (11, false), .fad (.r 1) 1⟩,
    ⟨some 13, some (11, false), .ld (.r 12) 1 1 18 1 false⟩,
    ⟨some 14, some (11, false), .len false (.r 13)⟩,
    ⟨some 15, some (11, false), .bin false .gtr (.r 14) (.i .i64 1024)⟩,
    ⟨some 16, none, .pick (.r 11) (.b true) (.r 15)⟩]) 
  (.cond (.r 16)
  (.seq (.reg [⟨some 2, none, .mov (.i .i64 9)⟩]) 
   (.ret))
  (.skip))) 
  (.seq (.reg [⟨some 2, none, .mov (.i .i64 0)⟩]) 
  (.ret))),
  [.tmp 2]⟩
theorem chk71 : chkF Tryd.prog 71 ir71 = true := by kernel_rfl
/-- vernier/dyadic.signed -/
def ir73 : FnIr := ⟨⟨8, 13, 13, [(1, 8, 3), (2, 11, 2)]⟩,
  .seq (.reg [⟨some 1, none, .box 8 3 (.r 0)⟩,
    ⟨some 2, none, .mk 11 [.bool false, .nil0]⟩]) 
  (.seq (.reg [⟨some 3, none, .fad (.r 1) 0⟩,
    ⟨some 4, none, .ld (.r 3) 1 0 8 1 false⟩,
    ⟨some 5, none, .fad (.r 1) 1⟩,
    ⟨some 6, none, .ld (.r 5) 1 1 9 1 false⟩,
    ⟨some 7, none, .bld [(0, 1, (.r 4)), (1, 1, (.r 6))] [.bool false, .nil0]⟩,
    ⟨none, none, .st (.r 2) 2 0 11 2 (.r 7)⟩]) 
  (.ret)),
  [.cell 2 2 11 2]⟩
theorem chk73 : chkF Tryd.prog 73 ir73 = true := by kernel_rfl
/-- vernier/natdiv.Shl -/
def ir74 : FnIr := ⟨⟨11, 11, 11, []⟩,
  .seq (.reg [⟨some 4, none, .mov .nil⟩,
    ⟨some 5, none, .mov (.i .i64 0)⟩]) 
  (.seq (.seq (.reg [⟨some 6, none, .mov (.r 1)⟩,
    ⟨some 7, none, .call false false 83 [(.r 6)]⟩]) 
  (.cond (.r 7)
  (.seq (.reg [⟨some 4, none, .mov .nil⟩,
     ⟨some 5, none, .mov (.i .i64 4)⟩]) 
   (.ret))
  (.skip))) 
  (.seq (.reg [⟨some 8, none, .mov (.r 0)⟩,
    ⟨some 9, none, .mov (.r 1)⟩,
    ⟨some 10, none, .call false false 84 [(.r 8), (.r 9)]⟩,
    ⟨some 4, none, .mov (.r 10)⟩,
    ⟨some 5, none, .mov (.i .i64 0)⟩]) 
  (.ret))),
  [.tmp 4, .tmp 5]⟩
theorem chk74 : chkF Tryd.prog 74 ir74 = true := by kernel_rfl
/-- vernier/whole.Sub -/
def ir76 : FnIr := ⟨⟨9, 15, 15, [(2, 9, 2), (3, 11, 2), (4, 13, 2)]⟩,
  .seq (.reg [⟨some 2, none, .box 9 2 (.r 0)⟩,
    ⟨some 3, none, .box 11 2 (.r 1)⟩,
    ⟨some 4, none, .mk 13 [.bool false, .nil0]⟩]) 
  (.seq (.reg [⟨some 5, none, .ld (.r 2) 2 0 9 2 true⟩,
    ⟨some 6, none, .ld (.r 3) 3 0 11 2 true⟩,
    ⟨some 7, none, .call false false 86 [(.r 6)]⟩,
    ⟨some 8, none, .call false false 77 [(.r 5), (.r 7)]⟩,
    ⟨none, none, .st (.r 4) 4 0 13 2 (.r 8)⟩]) 
  (.ret)),
  [.cell 4 4 13 2]⟩
theorem chk76 : chkF Tryd.prog 76 ir76 = true := by kernel_rfl
/-- vernier/whole.Add -/
def ir77 : FnIr := ⟨⟨36, 44, 44, [(2, 36, 2), (3, 38, 2), (4, 40, 2), (5, 42, 2)]⟩,
  .seq (.reg [⟨some 2, none, .box 36 2 (.r 0)⟩,
    ⟨some 3, none, .box 38 2 (.r 1)⟩,
    ⟨some 4, none, .mk 40 [.bool false, .nil0]⟩]) 
  (.seq (.seq (.reg [⟨some 6, none, .fad (.r 2) 0⟩,
    ⟨some 7, none, .ld (.r 6) 2 0 36 1 false⟩,
    ⟨some 8, none, .fad (.r 3) 0⟩,
    ⟨some 9, none, .ld (.r 8) 3 0 38 1 false⟩,
    ⟨some 10, none, .bin true .eql (.r 7) (.r 9)⟩]) 
  (.cond (.r 10)
  (.seq (.reg [⟨some 11, none, .fad (.r 2) 0⟩,
     ⟨some 12, none, .ld (.r 11) 2 0 36 1 false⟩,
     ⟨some 13, none, .fad (.r 2) 1⟩,
     ⟨some 14, none, .ld (.r 13) 2 1 37 1 false⟩,
     ⟨some 15, none, .fad (.r 3) 1⟩,
     ⟨some 16, none, .ld (.r 15) 3 1 39 1 false⟩,
     ⟨some 17, none, .call false false 88 [(.r 14), (.r 16)]⟩,
     ⟨some 18, none, .call false false 87 [(.r 12), (.r 17)]⟩,
     ⟨none, none, .st (.r 4) 4 0 40 2 (.r 18)⟩]) 
   (.ret))
  (.skip))) 
  (.seq (.reg [⟨some 19, none, .fad (.r 2) 1⟩,
    ⟨some 20, none, .ld (.r 19) 2 1 37 1 false⟩,
    ⟨some 21, none, .fad (.r 3) 1⟩,
    ⟨some 22, none, .ld (.r 21) 3 1 39 1 false⟩,
    ⟨some 23, none, .call false false 90 [(.r 20), (.r 22)]⟩,
    ⟨some 24, none, .bin false .lss (.r 23) (.i .i64 0)⟩,
    ⟨some 25, none, .ld (.r 3) 3 0 38 2 true⟩,
    ⟨some 26, none, .ld (.r 2) 2 0 36 2 true⟩,
    ⟨some 27, none, .call false false 89 [(.r 24), (.r 25), (.r 26)]⟩,
    ⟨some 5, none, .mk 42 [.bool false, .nil0]⟩,
    ⟨none, none, .st (.r 5) 5 0 42 2 (.r 27)⟩]) 
  (.seq (.reg [⟨some 28, none, .fad (.r 5) 0⟩,
    ⟨some 29, none, .ld (.r 28) 5 0 42 1 false⟩,
    ⟨some 30, none, .fad (.r 2) 1⟩,
    ⟨some 31, none, .ld (.r 30) 2 1 37 1 false⟩,
    ⟨some 32, none, .fad (.r 3) 1⟩,
    ⟨some 33, none, .ld (.r 32) 3 1 39 1 false⟩,
    ⟨some 34, none, .call false false 91 [(.r 31), (.r 33)]⟩,
    ⟨some 35, none, .call false false 87 [(.r 29), (.r 34)]⟩,
    ⟨none, none, .st (.r 4) 4 0 40 2 (.r 35)⟩]) 
  (.ret)))),
  [.cell 4 4 40 2]⟩
theorem chk77 : chkF Tryd.prog 77 ir77 = true := by kernel_rfl
/-- vernier/whole.Mul -/
def ir78 : FnIr := ⟨⟨16, 22, 22, [(2, 16, 2), (3, 18, 2), (4, 20, 2)]⟩,
  .seq (.reg [⟨some 2, none, .box 16 2 (.r 0)⟩,
    ⟨some 3, none, .box 18 2 (.r 1)⟩,
    ⟨some 4, none, .mk 20 [.bool false, .nil0]⟩]) 
  (.seq (.reg [⟨some 5, none, .fad (.r 2) 0⟩,
    ⟨some 6, none, .ld (.r 5) 2 0 16 1 false⟩,
    ⟨some 7, none, .fad (.r 3) 0⟩,
    ⟨some 8, none, .ld (.r 7) 3 0 18 1 false⟩,
    ⟨some 9, none, .bin true .neq (.r 6) (.r 8)⟩,
    ⟨some 10, none, .fad (.r 2) 1⟩,
    ⟨some 11, none, .ld (.r 10) 2 1 17 1 false⟩,
    ⟨some 12, none, .fad (.r 3) 1⟩,
    ⟨some 13, none, .ld (.r 12) 3 1 19 1 false⟩,
    ⟨some 14, none, .call false false 92 [(.r 11), (.r 13)]⟩,
    ⟨some 15, none, .call false false 87 [(.r 9), (.r 14)]⟩,
    ⟨none, none, .st (.r 4) 4 0 20 2 (.r 15)⟩]) 
  (.ret)),
  [.cell 4 4 20 2]⟩
theorem chk78 : chkF Tryd.prog 78 ir78 = true := by kernel_rfl
/-- vernier/natdiv.Zeros -/
def ir80 : FnIr := ⟨⟨20, 20, 20, []⟩,
  .seq (.reg [⟨some 2, none, .mov (.i .i64 0)⟩]) 
  (.seq (.seq (.reg [⟨some 5, none, .mov (.r 0)⟩,
    ⟨some 6, none, .len false (.r 5)⟩,
    ⟨some 7, none, .mov (.i .i64 0)⟩]) 
  (.block 0 (.kil ⟨[3, 4, 8, 9, 10, 11, 12, 13, 14, 15, 16, 17, 18, 19], [], [], []⟩ (.loop ⟨[3, 4, 8, 9, 10, 11, 12, 13, 14, 15, 16, 17, 18, 19], [], [], []⟩ (.seq (.reg [⟨some 8, none, .bin false .lss (.r 7) (.r 6)⟩]) 
    (.seq (.cond (.r 8)
    (.skip)
    (.exit 0)) 
    (.seq (.block 1 (.seq (.reg [⟨some 9, none, .mov (.r 7)⟩,
       ⟨some 10, none, .eat false (.r 5) (.r 7) 1⟩,
       ⟨some 11, none, .lde false (.r 10) 1 false⟩,
       ⟨some 3, none, .mov (.r 9)⟩,
       ⟨some 4, none, .mov (.r 11)⟩]) 
     (.seq (.reg [⟨some 12, none, .mov (.r 4)⟩,
       ⟨some 13, none, .bin false .neq (.r 12) (.i .u64 0)⟩]) 
     (.cond (.r 13)
     (.seq (.reg [⟨some 14, none, .mov (.r 3)⟩,
        ⟨some 15, none, .bin false .mul (.i .i64 64) (.r 14)⟩,
        ⟨some 16, none, .mov (.r 4)⟩,
        ⟨some 17, none, .call false false 93 [(.r 16)]⟩,
        ⟨some 18, none, .bin false .add (.r 15) (.r 17)⟩,
        ⟨some 2, none, .mov (.r 18)⟩]) 
      (.ret))
     (.skip))))) 
    (.reg [⟨some 19, none, .bin false .add (.r 7) (.i .i64 1)⟩,
      ⟨some 7, none, .mov (.r 19)⟩])))))))) 
  (.seq (.reg [⟨some 2, none, .mov (.i .i64 0)⟩]) 
  (.ret))),
  [.tmp 2]⟩
theorem chk80 : chkF Tryd.prog 80 ir80 = true := by kernel_rfl
/-- vernier/natdiv.Shr -/
def ir81 : FnIr := ⟨⟨11, 11, 11, []⟩,
  .seq (.reg [⟨some 4, none, .mov .nil⟩,
    ⟨some 5, none, .mov (.i .i64 0)⟩]) 
  (.seq (.seq (.reg [⟨some 6, none, .mov (.r 1)⟩,
    ⟨some 7, none, .call false false 83 [(.r 6)]⟩]) 
  (.cond (.r 7)
  (.seq (.reg [⟨some 4, none, .mov .nil⟩,
     ⟨some 5, none, .mov (.i .i64 4)⟩]) 
   (.ret))
  (.skip))) 
  (.seq (.reg [⟨some 8, none, .mov (.r 0)⟩,
    ⟨some 9, none, .mov (.r 1)⟩,
    ⟨some 10, none, .call false false 94 [(.r 8), (.r 9)]⟩,
    ⟨some 4, none, .mov (.r 10)⟩,
    ⟨some 5, none, .mov (.i .i64 0)⟩]) 
  (.ret))),
  [.tmp 4, .tmp 5]⟩
theorem chk81 : chkF Tryd.prog 81 ir81 = true := by kernel_rfl
/-- vernier/nat.Norm -/
def ir82 : FnIr := ⟨⟨22, 22, 22, []⟩,
  .seq (.reg [⟨some 2, none, .mov .nil⟩]) 
  (.seq (.reg [⟨some 4, none, .mov (.r 0)⟩,
    ⟨some 5, none, .len false (.r 4)⟩,
    ⟨some 3, none, .mov (.r 5)⟩]) 
  (.seq (.block 0 (.kil ⟨[6, 7, 8, 9, 10, 11, 12, 13, 14, 15, 16, 17], [], [], []⟩ (.loop ⟨[6, 7, 8, 9, 10, 11, 12, 13, 14, 15, 16, 17], [], [], []⟩ (.seq (.seq (.reg [⟨some 6, none, .mov (.r 3)⟩,
      ⟨some 7, none, .bin false .gtr (.r 6) (.i .i64 0)⟩,
      ⟨some 8, none, .mov (.r 7)⟩,
      ⟨some 9, some (8, true), .mov (.r 0)⟩,
      ⟨some 10, some (8, true), .mov (.r 3)⟩,
      ⟨some 11, some (8, true), .bin false .sub (.r 10) (.i .i64 1)⟩,
      ⟨some 12, some (8, true), .eat false (.r 9) (.r 11) 1⟩,
      ⟨some 13, some (8, true), .lde false (.r 12) 1 false⟩,
      ⟨some 14, some (8, true), .bin false .eql (.r 13) (.i .u64 0)⟩,
      ⟨some 15, none, .pick (.r 8) (.r 14) (.b false)⟩]) 
    (.cond (.r 15)
    (.skip)
    (.exit 0))) 
    (.block 1 (.reg [⟨some 16, none, .mov (.r 3)⟩,
       ⟨some 17, none, .bin false .sub (.r 16) (.i .i64 1)⟩,
       ⟨some 3, none, .mov (.r 17)⟩])))))) 
  (.seq (.reg [⟨some 18, none, .mov (.r 0)⟩,
    ⟨some 19, none, .mov (.r 3)⟩,
    ⟨some 20, none, .slc 1 (.r 18) none (some (.r 19))⟩,
    ⟨some 21, none, .call false false 43 [(.r 20)]⟩,
    ⟨some 2, none, .mov (.r 21)⟩]) 
  (.ret)))),
  [.tmp 2]⟩
theorem chk82 : chkF Tryd.prog 82 ir82 = true := by kernel_rfl
/-- vernier/natdiv.odd -/
def ir83 : FnIr := ⟨⟨9, 9, 9, []⟩,
  .seq (.reg [⟨some 2, none, .mov (.b false)⟩]) 
  (.seq (.reg [⟨some 3, none, .mov (.r 0)⟩,
    ⟨some 4, none, .bin false .lss (.r 3) (.i .i64 0)⟩,
    ⟨some 5, none, .mov (.r 4)⟩,
    ⟨some 6, some (5, false), .mov (.r 0)⟩,
    ⟨some 7, some (5, false), .bin false .gtr (.r 6) (.i .i64 65536)⟩,
    ⟨some 8, none, .pick (.r 5) (.b true) (.r 7)⟩,
    ⟨some 2, none, .mov (.r 8)⟩]) 
  (.ret)),
  [.tmp 2]⟩
theorem chk83 : chkF Tryd.prog 83 ir83 = true := by kernel_rfl
/-- vernier/nat.Bits -/
def ir85 : FnIr := ⟨⟨18, 18, 18, []⟩,
  .seq (.reg [⟨some 2, none, .mov (.i .i64 0)⟩]) 
  (.seq (.reg [⟨some 4, none, .mov (.r 0)⟩,
    ⟨some 5, none, .call false false 95 [(.r 4)]⟩,
    ⟨some 3, none, .mov (.r 5)⟩]) 
  (.seq (.seq (.reg [⟨some 6, none, .mov (.r 3)⟩,
    ⟨some 7, none, .bin false .eql (.r 6) (.i .i64 0)⟩]) 
  (.cond (.r 7)
  (.seq (.reg [⟨some 2, none, .mov (.i .i64 0)⟩]) 
   (.ret))
  (.skip))) 
  (.seq (.reg [⟨some 8, none, .mov (.r 3)⟩,
    ⟨some 9, none, .bin false .sub (.r 8) (.i .i64 1)⟩,
    ⟨some 10, none, .bin false .mul (.i .i64 64) (.r 9)⟩,
    ⟨some 11, none, .mov (.r 0)⟩,
    ⟨some 12, none, .mov (.r 3)⟩,
    ⟨some 13, none, .bin false .sub (.r 12) (.i .i64 1)⟩,
    ⟨some 14, none, .eat false (.r 11) (.r 13) 1⟩,
    ⟨some 15, none, .lde false (.r 14) 1 false⟩,
    ⟨some 16, none, .call false false 96 [(.r 15)]⟩,
    ⟨some 17, none, .bin false .add (.r 10) (.r 16)⟩,
    ⟨some 2, none, .mov (.r 17)⟩]) 
  (.ret)))),
  [.tmp 2]⟩
theorem chk85 : chkF Tryd.prog 85 ir85 = true := by kernel_rfl
/-- vernier/whole.Neg -/
def ir86 : FnIr := ⟨⟨9, 13, 13, [(1, 9, 2), (2, 11, 2)]⟩,
  .seq (.reg [⟨some 1, none, .box 9 2 (.r 0)⟩,
    ⟨some 2, none, .mk 11 [.bool false, .nil0]⟩]) 
  (.seq (.reg [⟨some 3, none, .fad (.r 1) 0⟩,
    ⟨some 4, none, .ld (.r 3) 1 0 9 1 false⟩,
    ⟨some 5, none, .un .not (.r 4)⟩,
    ⟨some 6, none, .fad (.r 1) 1⟩,
    ⟨some 7, none, .ld (.r 6) 1 1 10 1 false⟩,
    ⟨some 8, none, .call false false 87 [(.r 5), (.r 7)]⟩,
    ⟨none, none, .st (.r 2) 2 0 11 2 (.r 8)⟩]) 
  (.ret)),
  [.cell 2 2 11 2]⟩
theorem chk86 : chkF Tryd.prog 86 ir86 = true := by kernel_rfl
/-- vernier/whole.either[vernier/api.Whole] -/
def ir89 : FnIr := ⟨⟨10, 16, 16, [(4, 10, 2), (5, 12, 2), (6, 14, 2)]⟩,
  .seq (.reg [⟨some 4, none, .box 10 2 (.r 1)⟩,
    ⟨some 5, none, .box 12 2 (.r 2)⟩,
    ⟨some 6, none, .mk 14 [.bool false, .nil0]⟩]) 
  (.seq (.seq (.reg [⟨some 7, none, .mov (.r 0)⟩]) 
  (.cond (.r 7)
  (.seq (.reg [⟨some 8, none, .ld (.r 4) 4 0 10 2 true⟩,
     ⟨none, none, .st (.r 6) 6 0 14 2 (.r 8)⟩]) 
   (.ret))
  (.skip))) 
  (.seq (.reg [⟨some 9, none, .ld (.r 5) 5 0 12 2 true⟩,
    ⟨none, none, .st (.r 6) 6 0 14 2 (.r 9)⟩]) 
  (.ret))),
  [.cell 6 6 14 2]⟩
theorem chk89 : chkF Tryd.prog 89 ir89 = true := by kernel_rfl
/-- vernier/natdiv.shr -/
def ir94 : FnIr := ⟨⟨56, 56, 56, []⟩,
  .seq (.reg [⟨some 4, none, .mov .nil⟩]) 
  (.seq (.seq (.reg [⟨some 8, none, .mov (.r 1)⟩,
    ⟨some 9, none, .bin false .quo (.r 8) (.i .i64 64)⟩,
    ⟨some 10, none, .mov (.r 0)⟩,
    ⟨some 11, none, .len false (.r 10)⟩,
    ⟨some 12, none, .bin false .geq (.r 9) (.r 11)⟩]) 
  (.cond (.r 12)
  (.seq (.reg [⟨some 4, none, .mov .nil⟩]) 
   (.ret))
  (.skip))) 
  (.seq (.reg [⟨some 13, none, .mov (.r 0)⟩,
    ⟨some 14, none, .mov (.r 1)⟩,
    ⟨some 15, none, .bin false .quo (.r 14) (.i .i64 64)⟩,
    ⟨some 16, none, .slc 1 (.r 13) (some (.r 15)) none⟩,
    ⟨some 17, none, .call false false 43 [(.r 16)]⟩,
    ⟨some 5, none, .mov (.r 17)⟩]) 
  (.seq (.reg [⟨some 18, none, .mov (.r 1)⟩,
    ⟨some 19, none, .bin false .rem (.r 18) (.i .i64 64)⟩,
    ⟨some 20, none, .conv .u64 (.r 19)⟩,
    ⟨some 6, none, .mov (.r 20)⟩]) 
  (.seq (.seq (.reg [⟨some 21, none, .mov (.r 5)⟩,
    ⟨some 22, none, .len false (.r 21)⟩,
    ⟨some 23, none, .mov (.i .i64 0)⟩]) 
  (.block 0 (.kil ⟨[7, 24, 25, 26, 27, 28, 29, 30, 31, 32, 33, 34, 35, 36, 37, 38, 39, 40, 41, 42, 43, 44, 45, 46, 47, 48, 49, 50, 51, 52, 53], [], [], []⟩ (.loop ⟨[7, 24, 25, 26, 27, 28, 29, 30, 31, 32, 33, 34, 35, 36, 37, 38, 39, 40, 41, 42, 43, 44, 45, 46, 47, 48, 49, 50, 51, 52, 53], [], [], []⟩ (.seq (.reg [⟨some 24, none, .bin false .lss (.r 23) (.r 22)⟩]) 
    (.seq (.cond (.r 24)
    (.skip)
    (.exit 0)) 
    (.seq (.block 1 (.seq (.reg [⟨some 25, none, .mov (.r 23)⟩,
       ⟨some 7, none, .mov (.r 25)⟩]) 
     (.seq (.reg [⟨some 26, none, .mov (.r 5)⟩,
       ⟨some 27, none, .mov (.r 7)⟩,
       ⟨some 28, none, .eat false (.r 26) (.r 27) 1⟩,
       ⟨some 29, none, .lde false (.r 28) 1 false⟩,
       ⟨some 30, none, .mov (.r 6)⟩,
       ⟨some 31, none, .bin false .shr (.r 29) (.r 30)⟩,
       ⟨some 32, none, .eat false (.r 26) (.r 27) 1⟩,
       ⟨none, none, .ste (.r 32) false 1 (.r 31)⟩]) 
     (.seq (.reg [⟨some 33, none, .mov (.r 7)⟩,
       ⟨some 34, none, .bin false .add (.r 33) (.i .i64 1)⟩,
       ⟨some 35, none, .mov (.r 5)⟩,
       ⟨some 36, none, .len false (.r 35)⟩,
       ⟨some 37, none, .bin false .lss (.r 34) (.r 36)⟩]) 
     (.cond (.r 37)
     (.reg [⟨some 38, none, .mov (.r 5)⟩,
        ⟨some 39, none, .mov (.r 7)⟩,
        ⟨some 40, none, .eat false (.r 38) (.r 39) 1⟩,
        ⟨some 41, none, .lde false (.r 40) 1 false⟩,
        ⟨some 42, none, .mov (.r 5)⟩,
        ⟨some 43, none, .mov (.r 7)⟩,
        ⟨some 44, none, .bin false .add (.r 43) (.i .i64 1)⟩,
        ⟨some 45, none, .eat false (.r 42) (.r 44) 1⟩,
        ⟨some 46, none, .lde false (.r 45) 1 false⟩,
        ⟨some 47, none, .bin false .shl (.r 46) (.i .u64 1)⟩,
        ⟨some 48, none, .mov (.r 6)⟩,
        ⟨some 49, none, .bin false .sub (.i .u64 63) (.r 48)⟩,
        ⟨some 50, none, .bin false .shl (.r 47) (.r 49)⟩,
        ⟨some 51, none, .bin false .or (.r 41) (.r 50)⟩,
        ⟨some 52, none, .eat false (.r 38) (.r 39) 1⟩,
        ⟨none, none, .ste (.r 52) false 1 (.r 51)⟩])
     (.skip)))))) 
    (.reg [⟨some 53, none, .bin false .add (.r 23) (.i .i64 1)⟩,
      ⟨some 23, none, .mov (.r 53)⟩])))))))) 
  (.seq (.reg [⟨some 54, none, .mov (.r 5)⟩,
    ⟨some 55, none, .call false false 82 [(.r 54)]⟩,
    ⟨some 4, none, .mov (.r 55)⟩]) 
  (.ret)))))),
  [.tmp 4]⟩
theorem chk94 : chkF Tryd.prog 94 ir94 = true := by kernel_rfl
/-- vernier/nat.size -/
def ir95 : FnIr := ⟨⟨19, 19, 19, []⟩,
  .seq (.reg [⟨some 2, none, .mov (.i .i64 0)⟩]) 
  (.seq (.reg [⟨some 4, none, .mov (.r 0)⟩,
    ⟨some 5, none, .len false (.r 4)⟩,
    ⟨some 3, none, .mov (.r 5)⟩]) 
  (.seq (.block 0 (.kil ⟨[6, 7, 8, 9, 10, 11, 12, 13, 14, 15, 16, 17], [], [], []⟩ (.loop ⟨[6, 7, 8, 9, 10, 11, 12, 13, 14, 15, 16, 17], [], [], []⟩ (.seq (.seq (.reg [⟨some 6, none, .mov (.r 3)⟩,
      ⟨some 7, none, .bin false .gtr (.r 6) (.i .i64 0)⟩,
      ⟨some 8, none, .mov (.r 7)⟩,
      ⟨some 9, some (8, true), .mov (.r 0)⟩,
      ⟨some 10, some (8, true), .mov (.r 3)⟩,
      ⟨some 11, some (8, true), .bin false .sub (.r 10) (.i .i64 1)⟩,
      ⟨some 12, some (8, true), .eat false (.r 9) (.r 11) 1⟩,
      ⟨some 13, some (8, true), .lde false (.r 12) 1 false⟩,
      ⟨some 14, some (8, true), .bin false .eql (.r 13) (.i .u64 0)⟩,
      ⟨some 15, none, .pick (.r 8) (.r 14) (.b false)⟩]) 
    (.cond (.r 15)
    (.skip)
    (.exit 0))) 
    (.block 1 (.reg [⟨some 16, none, .mov (.r 3)⟩,
       ⟨some 17, none, .bin false .sub (.r 16) (.i .i64 1)⟩,
       ⟨some 3, none, .mov (.r 17)⟩])))))) 
  (.seq (.reg [⟨some 18, none, .mov (.r 3)⟩,
    ⟨some 2, none, .mov (.r 18)⟩]) 
  (.ret)))),
  [.tmp 2]⟩
theorem chk95 : chkF Tryd.prog 95 ir95 = true := by kernel_rfl
/-- vernier/nat.at -/
def ir98 : FnIr := ⟨⟨13, 13, 13, []⟩,
  .seq (.reg [⟨some 4, none, .mov (.i .u64 0)⟩]) 
  (.seq (.seq (.reg [⟨some 5, none, .mov (.r 1)⟩,
    ⟨some 6, none, .mov (.r 0)⟩,
    ⟨some 7, none, .len false (.r 6)⟩,
    ⟨some 8, none, .bin false .lss (.r 5) (.r 7)⟩]) 
  (.cond (.r 8)
  (.seq (.reg [⟨some 9, none, .mov (.r 0)⟩,
     ⟨some 10, none, .mov (.r 1)⟩,
     ⟨some 11, none, .eat false (.r 9) (.r 10) 1⟩,
     ⟨some 12, none, .lde false (.r 11) 1 false⟩,
     ⟨some 4, none, .mov (.r 12)⟩]) 
   (.ret))
  (.skip))) 
  (.seq (.reg [⟨some 4, none, .mov (.i .u64 0)⟩]) 
  (.ret))),
  [.tmp 4]⟩
theorem chk98 : chkF Tryd.prog 98 ir98 = true := by kernel_rfl
/-- vernier/nat.order -/
def ir99 : FnIr := ⟨⟨4, 4, 4, []⟩,
  .seq (.reg [⟨some 2, none, .mov (.i .i64 0)⟩]) 
  (.seq (.seq (.reg [⟨some 3, none, .mov (.r 0)⟩]) 
  (.cond (.r 3)
  (.seq (.reg [⟨some 2, none, .mov (.i .i64 (-1))⟩]) 
   (.ret))
  (.skip))) 
  (.seq (.reg [⟨some 2, none, .mov (.i .i64 1)⟩]) 
  (.ret))),
  [.tmp 2]⟩
theorem chk99 : chkF Tryd.prog 99 ir99 = true := by kernel_rfl
/-- math/bits.Mul64 -/
def ir104 : FnIr := ⟨⟨51, 51, 51, []⟩,
  .seq (.reg [⟨some 4, none, .mov (.i .u64 0)⟩,
    ⟨some 5, none, .mov (.i .u64 0)⟩]) 
  (.seq (.reg [⟨some 14, none, .mov (.r 0)⟩,
    ⟨some 15, none, .bin false .and (.r 14) (.i .u64 4294967295)⟩,
    ⟨some 6, none, .mov (.r 15)⟩]) 
  (.seq (.reg [⟨some 16, none, .mov (.r 0)⟩,
    ⟨some 17, none, .bin false .shr (.r 16) (.i .u64 32)⟩,
    ⟨some 7, none, .mov (.r 17)⟩]) 
  (.seq (.reg [⟨some 18, none, .mov (.r 1)⟩,
    ⟨some 19, none, .bin false .and (.r 18) (.i .u64 4294967295)⟩,
    ⟨some 8, none, .mov (.r 19)⟩]) 
  (.seq (.reg [⟨some 20, none, .mov (.r 1)⟩,
    ⟨some 21, none, .bin false .shr (.r 20) (.i .u64 32)⟩,
    ⟨some 9, none, .mov (.r 21)⟩]) 
  (.seq (.reg [⟨some 22, none, .mov (.r 6)⟩,
    ⟨some 23, none, .mov (.r 8)⟩,
    ⟨some 24, none, .bin false .mul (.r 22) (.r 23)⟩,
    ⟨some 10, none, .mov (.r 24)⟩]) 
  (.seq (.reg [⟨some 25, none, .mov (.r 7)⟩,
    ⟨some 26, none, .mov (.r 8)⟩,
    ⟨some 27, none, .bin false .mul (.r 25) (.r 26)⟩,
    ⟨some 28, none, .mov (.r 10)⟩,
    ⟨some 29, none, .bin false .shr (.r 28) (.i .u64 32)⟩,
    ⟨some 30, none, .bin false .add (.r 27) (.r 29)⟩,
    ⟨some 11, none, .mov (.r 30)⟩]) 
  (.seq (.reg [⟨some 31, none, .mov (.r 11)⟩,
    ⟨some 32, none, .bin false .and (.r 31) (.i .u64 4294967295)⟩,
    ⟨some 12, none, .mov (.r 32)⟩]) 
  (.seq (.reg [⟨some 33, none, .mov (.r 11)⟩,
    ⟨some 34, none, .bin false .shr (.r 33) (.i .u64 32)⟩,
    ⟨some 13, none, .mov (.r 34)⟩]) 
  (.seq (.reg [⟨some 35, none, .mov (.r 12)⟩,
    ⟨some 36, none, .mov (.r 6)⟩,
    ⟨some 37, none, .mov (.r 9)⟩,
    ⟨some 38, none, .bin false .mul (.r 36) (.r 37)⟩,
    ⟨some 39, none, .bin false .add (.r 35) (.r 38)⟩,
    ⟨some 12, none, .mov (.r 39)⟩]) 
  (.seq (.reg [⟨some 40, none, .mov (.r 7)⟩,
    ⟨some 41, none, .mov (.r 9)⟩,
    ⟨some 42, none, .bin false .mul (.r 40) (.r 41)⟩,
    ⟨some 43, none, .mov (.r 13)⟩,
    ⟨some 44, none, .bin false .add (.r 42) (.r 43)⟩,
    ⟨some 45, none, .mov (.r 12)⟩,
    ⟨some 46, none, .bin false .shr (.r 45) (.i .u64 32)⟩,
    ⟨some 47, none, .bin false .add (.r 44) (.r 46)⟩,
    ⟨some 4, none, .mov (.r 47)⟩]) 
  (.seq (.reg [⟨some 48, none, .mov (.r 0)⟩,
    ⟨some 49, none, .mov (.r 1)⟩,
    ⟨some 50, none, .bin false .mul (.r 48) (.r 49)⟩,
    ⟨some 5, none, .mov (.r 50)⟩]) 
  (.ret)))))))))))),
  [.tmp 4, .tmp 5]⟩
theorem chk104 : chkF Tryd.prog 104 ir104 = true := by kernel_rfl
end Go.Proofs.YtejmahnbecglfaaDoor.Den

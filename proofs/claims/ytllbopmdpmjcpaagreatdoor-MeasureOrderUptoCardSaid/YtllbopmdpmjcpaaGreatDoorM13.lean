import Derived.Test.YtllbopmdpmjcpaaGreatDoorM11
import Derived.Test.YtllbopmdpmjcpaaGreatDoorM12
set_option linter.unusedSimpArgs false
set_option linter.unusedVariables false
set_option linter.unusedSectionVars false
section
open Go Go.Pl Go.Proofs
namespace Go.Pl.Z
def F103 : F := ⟨12,[.tmp 2],.seq (.reg [⟨some 2,.asg (.k (.bool false)),none⟩]) (.seq (.reg [⟨some 3,.mv (.t 0),none⟩,⟨some 4,.call 125 [.t 3,.k (.str [45])],none⟩,⟨some 0,.asg (.t 4),none⟩]) (.seq (.reg [⟨some 5,.mv (.t 0),none⟩,⟨some 6,.bin .neq (.t 5) (.k (.str [])),none⟩,⟨some 7,.mv (.t 6),none⟩,⟨some 8,.mv (.t 0),some (7,true)⟩,⟨some 9,.call 126 [.t 8,.k (.str [48,49,50,51,52,53,54,55,56,57])],some (7,true)⟩,⟨some 10,.bin .eql (.t 9) (.k (.str [])),some (7,true)⟩,⟨some 11,.pick (.t 7) (.t 10) (.k (.bool false)),none⟩,⟨some 2,.asg (.t 11),none⟩]) .ret))⟩
theorem c103 : compFn Tryz.prog Tryz.f103 = some F103 := by kernel_rfl
theorem g103 : isGo Tryz.prog 103 = true := by kernel_rfl
def F104 : F := ⟨14,[.tmp 2],.seq (.reg [⟨some 2,.asg (.k (.bool false)),none⟩]) (.seq (.reg [⟨some 3,.mv (.t 0),none⟩,⟨some 4,.bin .lss (.t 3) (.k (.int .u8 33)),none⟩,⟨some 5,.mv (.t 4),none⟩,⟨some 6,.mv (.t 0),some (5,false)⟩,⟨some 7,.bin .gtr (.t 6) (.k (.int .u8 126)),some (5,false)⟩,⟨some 8,.pick (.t 5) (.k (.bool true)) (.t 7),none⟩,⟨some 9,.mv (.t 8),none⟩,⟨some 10,.mv (.t 0),some (9,false)⟩,⟨some 11,.call 127 [.k (.str [40,41,34,59]),.t 10],some (9,false)⟩,⟨some 12,.bin .geq (.t 11) (.k (.int .i64 0)),some (9,false)⟩,⟨some 13,.pick (.t 9) (.k (.bool true)) (.t 12),none⟩,⟨some 2,.asg (.t 13),none⟩]) .ret)⟩
theorem c104 : compFn Tryz.prog Tryz.f104 = some F104 := by kernel_rfl
theorem g104 : isGo Tryz.prog 104 = true := by kernel_rfl
def F105 : F := ⟨13,[.tmp 2],.seq (.reg [⟨some 2,.asg (.k (.bool false)),none⟩]) (.seq (.reg [⟨some 3,.mv (.t 0),none⟩,⟨some 4,.bin .neq (.t 3) (.k (.int .i32 10)),none⟩,⟨some 5,.mv (.t 4),none⟩,⟨some 6,.mv (.t 0),some (5,true)⟩,⟨some 7,.bin .lss (.t 6) (.k (.int .i32 32)),some (5,true)⟩,⟨some 8,.mv (.t 7),some (5,true)⟩,⟨some 9,.mv (.t 0),some (8,false)⟩,⟨some 10,.bin .gtr (.t 9) (.k (.int .i32 126)),some (8,false)⟩,⟨some 11,.pick (.t 8) (.k (.bool true)) (.t 10),some (5,true)⟩,⟨some 12,.pick (.t 5) (.t 11) (.k (.bool false)),none⟩,⟨some 2,.asg (.t 12),none⟩]) .ret)⟩
theorem c105 : compFn Tryz.prog Tryz.f105 = some F105 := by kernel_rfl
theorem g105 : isGo Tryz.prog 105 = true := by kernel_rfl
def F84 : F := ⟨6,[.tmp 2],.seq (.reg [⟨some 1,.box (.t 0),none⟩,⟨some 2,.asg (.k (.bool false)),none⟩]) (.seq (.reg [⟨some 3,.ld 4 true (.t 1),none⟩,⟨some 4,.call 27 [.t 3],none⟩,⟨some 5,.un .not (.t 4),none⟩,⟨some 2,.asg (.t 5),none⟩]) .ret)⟩
theorem c84 : compFn Tryz.prog Tryz.f84 = some F84 := by kernel_rfl
theorem g84 : isGo Tryz.prog 84 = true := by kernel_rfl
def F51 : F := ⟨6,[.tmp 2],.seq (.reg [⟨some 2,.asg (.k (.bool false)),none⟩]) (.seq (.reg [⟨some 3,.mv (.t 0),none⟩,⟨some 4,.call 19 [.t 3,.k (.fn 84 [])],none⟩,⟨some 5,.un .not (.t 4),none⟩,⟨some 2,.asg (.t 5),none⟩]) .ret)⟩
theorem c51 : compFn Tryz.prog Tryz.f51 = some F51 := by kernel_rfl
theorem g51 : isGo Tryz.prog 51 = true := by kernel_rfl
def F52 : F := ⟨21,[.tmp 2],.seq (.reg [⟨some 2,.asg (.k (.bool false)),none⟩]) (.seq (.seq (.reg [⟨some 3,.asg (.k (.int .i64 1)),none⟩]) (.block 0 (.loop (.seq (.seq (.reg [⟨some 4,.mv (.t 3),none⟩,⟨some 5,.mv (.t 0),none⟩,⟨some 6,.len (.t 5),none⟩,⟨some 7,.bin .lss (.t 4) (.t 6),none⟩]) (.cond (.t 7) .skip (.exit 0))) (.seq (.block 1 (.seq (.draw 11 [⟨some 10,.mv (.t 0),none⟩,⟨some 11,.mv (.t 3),none⟩,⟨some 12,.bin .sub (.t 11) (.k (.int .i64 1)),none⟩,⟨some 13,.ia 4 (.t 10) (.t 12),none⟩,⟨some 14,.ld 4 true (.t 13),none⟩,⟨some 15,.mv (.t 0),none⟩,⟨some 16,.mv (.t 3),none⟩,⟨some 17,.ia 4 (.t 15) (.t 16),none⟩,⟨some 18,.ld 4 true (.t 17),none⟩,⟨some 19,.call 43 [.t 14,.t 18],none⟩,⟨some 20,.bin .geq (.t 19) (.k (.int .i64 0)),none⟩]) (.cond (.t 20) (.seq (.reg [⟨some 2,.asg (.k (.bool false)),none⟩]) .ret) .skip))) (.reg [⟨some 8,.mv (.t 3),none⟩,⟨some 9,.bin .add (.t 8) (.k (.int .i64 1)),none⟩,⟨some 3,.asg (.t 9),none⟩])))))) (.seq (.reg [⟨some 2,.asg (.k (.bool true)),none⟩]) .ret))⟩
theorem c52 : compFn Tryz.prog Tryz.f52 = some F52 := by kernel_rfl
theorem g52 : isGo Tryz.prog 52 = true := by kernel_rfl
def F53 : F := ⟨47,[.tmp 2],.seq (.reg [⟨some 2,.asg (.k (.bool false)),none⟩]) (.seq (.reg [⟨some 3,.asg (.k (.sl true 4 [])),none⟩]) (.seq (.seq (.reg [⟨some 6,.mv (.t 0),none⟩,⟨some 7,.len (.t 6),none⟩,⟨some 8,.mv (.k (.int .i64 0)),none⟩]) (.block 0 (.loop (.seq (.reg [⟨some 9,.bin .lss (.t 8) (.t 7),none⟩]) (.seq (.cond (.t 9) .skip (.exit 0)) (.seq (.block 1 (.seq (.reg [⟨some 10,.ia 4 (.t 6) (.t 8),none⟩,⟨some 11,.ld 4 true (.t 10),none⟩,⟨some 5,.new (.agg [.int .i64 0,.int .i64 0,.str [],.sl true 4 []]),none⟩,⟨none,.st 4 (.t 5) (.t 11),none⟩]) (.seq (.seq (.reg [⟨some 12,.fa 0 1 false (.t 5),none⟩,⟨some 13,.ld 1 false (.t 12),none⟩,⟨some 14,.bin .neq (.t 13) (.k (.int .i64 3)),none⟩,⟨some 15,.mv (.t 14),none⟩,⟨some 16,.fa 3 1 false (.t 5),some (15,false)⟩,⟨some 17,.ld 1 false (.t 16),some (15,false)⟩,⟨some 18,.len (.t 17),some (15,false)⟩,⟨some 19,.bin .neq (.t 18) (.k (.int .i64 2)),some (15,false)⟩,⟨some 20,.pick (.t 15) (.k (.bool true)) (.t 19),none⟩,⟨some 21,.mv (.t 20),none⟩,⟨some 22,.fa 3 1 false (.t 5),some (21,false)⟩,⟨some 23,.ld 1 false (.t 22),some (21,false)⟩,⟨some 24,.ia 4 (.t 23) (.k (.int .i64 0)),some (21,false)⟩,⟨some 25,.ld 4 true (.t 24),some (21,false)⟩,⟨some 26,.call 27 [.t 25],some (21,false)⟩,⟨some 27,.un .not (.t 26),some (21,false)⟩,⟨some 28,.pick (.t 21) (.k (.bool true)) (.t 27),none⟩,⟨some 29,.mv (.t 28),none⟩,⟨some 30,.fa 3 1 false (.t 5),some (29,false)⟩,⟨some 31,.ld 1 false (.t 30),some (29,false)⟩,⟨some 32,.ia 4 (.t 31) (.k (.int .i64 1)),some (29,false)⟩,⟨some 33,.ld 4 true (.t 32),some (29,false)⟩,⟨some 34,.call 27 [.t 33],some (29,false)⟩,⟨some 35,.un .not (.t 34),some (29,false)⟩,⟨some 36,.pick (.t 29) (.k (.bool true)) (.t 35),none⟩]) (.cond (.t 36) (.seq (.reg [⟨some 2,.asg (.k (.bool false)),none⟩]) .ret) .skip)) (.reg [⟨some 37,.asg (.t 3),none⟩,⟨some 38,.fa 3 1 false (.t 5),none⟩,⟨some 39,.ld 1 false (.t 38),none⟩,⟨some 40,.ia 4 (.t 39) (.k (.int .i64 0)),none⟩,⟨some 41,.ld 4 true (.t 40),none⟩,⟨some 42,.mks 24 4 [.t 41],none⟩,⟨some 43,.app 22 24 4 56 (.t 37) (.t 42),none⟩,⟨some 3,.asg (.t 43),none⟩])))) (.reg [⟨some 44,.bin .add (.t 8) (.k (.int .i64 1)),none⟩,⟨some 8,.mv (.t 44),none⟩]))))))) (.seq (.reg [⟨some 45,.mv (.t 3),none⟩,⟨some 46,.call 52 [.t 45],none⟩,⟨some 2,.asg (.t 46),none⟩]) .ret)))⟩
theorem c53 : compFn Tryz.prog Tryz.f53 = some F53 := by kernel_rfl
theorem g53 : isGo Tryz.prog 53 = true := by kernel_rfl
def F54 : F := ⟨17,[.tmp 2],.seq (.reg [⟨some 1,.box (.t 0),none⟩,⟨some 2,.asg (.k (.bool false)),none⟩]) (.seq (.reg [⟨some 3,.fa 3 1 false (.t 1),none⟩,⟨some 4,.ld 1 false (.t 3),none⟩,⟨some 5,.ia 4 (.t 4) (.k (.int .i64 1)),none⟩,⟨some 6,.fa 0 1 false (.t 5),none⟩,⟨some 7,.ld 1 false (.t 6),none⟩,⟨some 8,.bin .neq (.t 7) (.k (.int .i64 0)),none⟩,⟨some 9,.mv (.t 8),none⟩,⟨some 10,.fa 3 1 false (.t 1),some (9,false)⟩,⟨some 11,.ld 1 false (.t 10),some (9,false)⟩,⟨some 12,.ia 4 (.t 11) (.k (.int .i64 1)),some (9,false)⟩,⟨some 13,.fa 1 1 false (.t 12),some (9,false)⟩,⟨some 14,.ld 1 false (.t 13),some (9,false)⟩,⟨some 15,.bin .lss (.t 14) (.k (.int .i64 1)),some (9,false)⟩,⟨some 16,.pick (.t 9) (.k (.bool true)) (.t 15),none⟩,⟨some 2,.asg (.t 16),none⟩]) .ret)⟩
theorem c54 : compFn Tryz.prog Tryz.f54 = some F54 := by kernel_rfl
theorem g54 : isGo Tryz.prog 54 = true := by kernel_rfl
def F55 : F := ⟨12,[.tmp 3],.seq (.reg [⟨some 2,.box (.t 0),none⟩,⟨some 3,.asg (.k (.bool false)),none⟩]) (.seq (.draw 8 [⟨some 4,.fa 3 1 false (.t 2),none⟩,⟨some 5,.ld 1 false (.t 4),none⟩,⟨some 6,.ia 4 (.t 5) (.k (.int .i64 1)),none⟩,⟨some 7,.ld 4 true (.t 6),none⟩,⟨some 8,.ld 1 false (.t 1),none⟩,⟨some 9,.ia 4 (.t 8) (.k (.int .i64 0)),none⟩,⟨some 10,.ld 4 true (.t 9),none⟩,⟨some 11,.call 20 [.t 7,.t 10],none⟩,⟨some 3,.asg (.t 11),none⟩]) .ret)⟩
theorem c55 : compFn Tryz.prog Tryz.f55 = some F55 := by kernel_rfl
theorem g55 : isGo Tryz.prog 55 = true := by kernel_rfl
def F85 : F := ⟨17,[.tmp 2],.seq (.reg [⟨some 2,.asg (.k (.bool false)),none⟩]) (.seq (.reg [⟨some 3,.mv (.t 0),none⟩,⟨some 4,.bin .geq (.t 3) (.k (.int .u8 97)),none⟩,⟨some 5,.mv (.t 4),none⟩,⟨some 6,.mv (.t 0),some (5,true)⟩,⟨some 7,.bin .leq (.t 6) (.k (.int .u8 122)),some (5,true)⟩,⟨some 8,.pick (.t 5) (.t 7) (.k (.bool false)),none⟩,⟨some 9,.mv (.t 8),none⟩,⟨some 10,.mv (.t 0),some (9,false)⟩,⟨some 11,.bin .geq (.t 10) (.k (.int .u8 65)),some (9,false)⟩,⟨some 12,.mv (.t 11),some (9,false)⟩,⟨some 13,.mv (.t 0),some (12,true)⟩,⟨some 14,.bin .leq (.t 13) (.k (.int .u8 90)),some (12,true)⟩,⟨some 15,.pick (.t 12) (.t 14) (.k (.bool false)),some (9,false)⟩,⟨some 16,.pick (.t 9) (.k (.bool true)) (.t 15),none⟩,⟨some 2,.asg (.t 16),none⟩]) .ret)⟩
theorem c85 : compFn Tryz.prog Tryz.f85 = some F85 := by kernel_rfl
theorem g85 : isGo Tryz.prog 85 = true := by kernel_rfl
def F86 : F := ⟨6,[.tmp 2],.seq (.reg [⟨some 2,.asg (.k (.bool false)),none⟩]) (.seq (.reg [⟨some 3,.call 107 [.k (.str [116,114,117,101,32,102,97,108,115,101,32,110,117,108,108,32,116,104,105,115,32,114,101,115,117,108,116,32,105,110,116,32,98,111,111,108,32,43,32,45,32,42,32,100,105,118,32,109,111,100,32,110,101,103,32,60,32,60,61,32,61,32,110,111,116,32,97,110,100,32,111,114,32,61,62,32,105,102,102,32,105,102,32,108,101,116,32,112,105,99,107,32,109,97,116,99,104,32,102,110,32,97,112,112,32,111,102,32,99,97,108,108,32,109,97,107,101,32,105,115,32,103,101,116,32,98,105,116,115,32,98,97,110,100,32,98,111,114,32,98,120,111,114,32,98,97,100,100,32,98,110,117,109,32,115,101,113,32,115,101,116,32,98,97,103,32,109,97,112,32,101,109,112,116,121,32,105,109,97,112,32,108,101,110,32,97,116,32,99,97,116,32,99,117,116,32,112,117,116,32,105,110,32,106,111,105,110,32,109,101,101,116,32,108,101,115,115,32,99,97,114,100,32,99,111,117,110,116,32,108,111,111,107,32,107,101,121,115,32,97,108,108,32,115,111,109,101,32,101,118,101,114,121,32,97,110,121,32,102,111,114,97,108,108,32,101,120,105,115,116,115,32,116,114,105,103,103,101,114,32,111,108,100,32,102,114,101,115,104,32,102,117,101,108,32,112,114,101,102,105,120,32,118,97,114,32,115,116,111,114,101,32,110,101,119,32,115,101,110,100,32,99,104,111,111,115,101,32,119,104,105,108,101,32,105,110,118,97,114,105,97,110,116,32,100,101,99,114,101,97,115,101,115,32,109,111,100,105,102,105,101,115,32,99,97,115,101,32,97,115,115,101,114,116,32,98,121,32,97,115,115,117,109,101,32,101,120,112,101,99,116,32,108,101,97,118,101,32,108,97,98,101,108,32,101,97,99,104,32,108,101,109,109,97,32,114,101,113,117,105,114,101,115,32,101,110,115,117,114,101,115,32,99,97,108,99,32,114,101,118,101,97,108,32,103,104,111,115,116,32,98,108,111,99,107,32,100,97,116,97,32,99,111,100,97,116,97,32,101,113,32,115,117,98,32,116,114,97,105,116,32,99,108,97,115,115,32,102,105,101,108,100,32,102,117,110,99,116,105,111,110,32,112,114,101,100,105,99,97,116,101,32,116,119,111,115,116,97,116,101,32,108,101,97,115,116,32,103,114,101,97,116,101,115,116,32,116,112,32,114,101,97,100,115,32,111,112,97,113,117,101,32,109,101,116,104,111,100,32,101,120,116,101,114,110,32,98,111,100,121,32,102,117,110,32,109,97,121,98,101,32,109,111,100,117,108,101,32,111,112,101,110,32,114,101,102,105,110,101,115,32,97,98,115,116,114,97,99,116])],none⟩,⟨some 4,.mv (.t 0),none⟩,⟨some 5,.call 106 [.t 3,.t 4],none⟩,⟨some 2,.asg (.t 5),none⟩]) .ret)⟩
theorem c86 : compFn Tryz.prog Tryz.f86 = some F86 := by kernel_rfl
theorem g86 : isGo Tryz.prog 86 = true := by kernel_rfl
def F88 : F := ⟨23,[.tmp 2],.seq (.reg [⟨some 2,.asg (.k (.bool false)),none⟩]) (.seq (.reg [⟨some 3,.mv (.t 0),none⟩,⟨some 4,.bin .gtr (.t 3) (.k (.int .i32 126)),none⟩,⟨some 5,.mv (.t 4),none⟩,⟨some 6,.mv (.t 0),some (5,false)⟩,⟨some 7,.cvi .u8 (.t 6),some (5,false)⟩,⟨some 8,.call 85 [.t 7],some (5,false)⟩,⟨some 9,.un .not (.t 8),some (5,false)⟩,⟨some 10,.mv (.t 9),some (5,false)⟩,⟨some 11,.mv (.t 0),some (10,true)⟩,⟨some 12,.bin .lss (.t 11) (.k (.int .i32 48)),some (10,true)⟩,⟨some 13,.mv (.t 12),some (10,true)⟩,⟨some 14,.mv (.t 0),some (13,false)⟩,⟨some 15,.bin .gtr (.t 14) (.k (.int .i32 57)),some (13,false)⟩,⟨some 16,.pick (.t 13) (.k (.bool true)) (.t 15),some (10,true)⟩,⟨some 17,.pick (.t 10) (.t 16) (.k (.bool false)),some (5,false)⟩,⟨some 18,.mv (.t 17),some (5,false)⟩,⟨some 19,.mv (.t 0),some (18,true)⟩,⟨some 20,.bin .neq (.t 19) (.k (.int .i32 95)),some (18,true)⟩,⟨some 21,.pick (.t 18) (.t 20) (.k (.bool false)),some (5,false)⟩,⟨some 22,.pick (.t 5) (.k (.bool true)) (.t 21),none⟩,⟨some 2,.asg (.t 22),none⟩]) .ret)⟩
theorem c88 : compFn Tryz.prog Tryz.f88 = some F88 := by kernel_rfl
theorem g88 : isGo Tryz.prog 88 = true := by kernel_rfl
def F106 : F := ⟨9,[.tmp 4],.seq (.reg [⟨some 4,.asg (.k (.bool false)),none⟩]) (.seq (.reg [⟨some 5,.mv (.t 0),none⟩,⟨some 6,.mv (.t 1),none⟩,⟨some 7,.call 128 [.t 5,.t 6],none⟩,⟨some 8,.bin .geq (.t 7) (.k (.int .i64 0)),none⟩,⟨some 4,.asg (.t 8),none⟩]) .ret)⟩
theorem c106 : compFn Tryz.prog Tryz.f106 = some F106 := by kernel_rfl
theorem g106 : isGo Tryz.prog 106 = true := by kernel_rfl
def F128 : F := ⟨19,[.tmp 4],.seq (.reg [⟨some 4,.asg (.k (.int .i64 0)),none⟩]) (.seq (.seq (.reg [⟨some 6,.mv (.t 0),none⟩,⟨some 7,.len (.t 6),none⟩,⟨some 8,.mv (.k (.int .i64 0)),none⟩]) (.block 0 (.loop (.seq (.reg [⟨some 9,.bin .lss (.t 8) (.t 7),none⟩]) (.seq (.cond (.t 9) .skip (.exit 0)) (.seq (.block 1 (.seq (.reg [⟨some 10,.mv (.t 8),none⟩,⟨some 5,.asg (.t 10),none⟩]) (.seq (.reg [⟨some 11,.mv (.t 1),none⟩,⟨some 12,.mv (.t 0),none⟩,⟨some 13,.mv (.t 5),none⟩,⟨some 14,.ia 1 (.t 12) (.t 13),none⟩,⟨some 15,.ld 1 false (.t 14),none⟩,⟨some 16,.bin .eql (.t 11) (.t 15),none⟩]) (.cond (.t 16) (.seq (.reg [⟨some 17,.asg (.t 5),none⟩,⟨some 4,.asg (.t 17),none⟩]) .ret) .skip)))) (.reg [⟨some 18,.bin .add (.t 8) (.k (.int .i64 1)),none⟩,⟨some 8,.mv (.t 18),none⟩]))))))) (.seq (.reg [⟨some 4,.asg (.k (.int .i64 (-1))),none⟩]) .ret))⟩
theorem c128 : compFn Tryz.prog Tryz.f128 = some F128 := by kernel_rfl
theorem g128 : isGo Tryz.prog 128 = true := by kernel_rfl
def F56 : F := ⟨23,[.tmp 2],.seq (.reg [⟨some 2,.asg (.k (.bool false)),none⟩]) (.seq (.seq (.reg [⟨some 3,.mv (.t 0),none⟩,⟨some 4,.bin .eql (.t 3) (.k (.str [])),none⟩,⟨some 5,.mv (.t 4),none⟩,⟨some 6,.mv (.t 0),some (5,false)⟩,⟨some 7,.lns (.t 6),some (5,false)⟩,⟨some 8,.bin .gtr (.t 7) (.k (.int .i64 20)),some (5,false)⟩,⟨some 9,.pick (.t 5) (.k (.bool true)) (.t 8),none⟩,⟨some 10,.mv (.t 9),none⟩,⟨some 11,.mv (.t 0),some (10,false)⟩,⟨some 12,.ix (.t 11) (.k (.int .i64 0)),some (10,false)⟩,⟨some 13,.call 85 [.t 12],some (10,false)⟩,⟨some 14,.un .not (.t 13),some (10,false)⟩,⟨some 15,.pick (.t 10) (.k (.bool true)) (.t 14),none⟩,⟨some 16,.mv (.t 15),none⟩,⟨some 17,.mv (.t 0),some (16,false)⟩,⟨some 18,.call 86 [.t 17],some (16,false)⟩,⟨some 19,.pick (.t 16) (.k (.bool true)) (.t 18),none⟩]) (.cond (.t 19) (.seq (.reg [⟨some 2,.asg (.k (.bool false)),none⟩]) .ret) .skip)) (.seq (.reg [⟨some 20,.mv (.t 0),none⟩,⟨some 21,.call 87 [.t 20,.k (.fn 88 [])],none⟩,⟨some 22,.un .not (.t 21),none⟩,⟨some 2,.asg (.t 22),none⟩]) .ret))⟩
theorem c56 : compFn Tryz.prog Tryz.f56 = some F56 := by kernel_rfl
theorem g56 : isGo Tryz.prog 56 = true := by kernel_rfl
def F30 : F := ⟨40,[.tmp 4],.seq (.reg [⟨some 2,.box (.t 0),none⟩,⟨some 3,.box (.t 1),none⟩,⟨some 4,.asg (.k (.bool false)),none⟩]) (.seq (.reg [⟨some 6,.fun_ 59 [.t 2],none⟩,⟨some 5,.asg (.t 6),none⟩]) (.seq (.seq (.reg [⟨some 7,.ld 4 true (.t 3),none⟩,⟨some 8,.call 28 [.t 7],none⟩]) (.block 0 (.seq (.reg [⟨some 10,.bin .eql (.t 8) (.k (.str [100,97,116,97])),none⟩,⟨some 9,.asg (.t 10),none⟩]) (.cond (.t 9) (.seq (.reg [⟨some 11,.mv (.t 5),none⟩,⟨some 12,.fa 3 1 false (.t 3),none⟩,⟨some 13,.ld 1 false (.t 12),none⟩,⟨some 14,.slc 4 (.t 13) (some (.k (.int .i64 2))) none none,none⟩,⟨some 15,.callv (.t 11) [.t 14],none⟩,⟨some 4,.asg (.t 15),none⟩]) .ret) (.seq (.seq (.reg [⟨some 17,.bin .eql (.t 8) (.k (.str [115,101,113])),none⟩,⟨some 16,.asg (.t 17),none⟩]) (.cond (.t 16) .skip (.reg [⟨some 18,.bin .eql (.t 8) (.k (.str [115,101,116])),none⟩,⟨some 16,.asg (.t 18),none⟩]))) (.cond (.t 16) (.seq (.reg [⟨some 19,.mv (.t 5),none⟩,⟨some 20,.fa 3 1 false (.t 3),none⟩,⟨some 21,.ld 1 false (.t 20),none⟩,⟨some 22,.slc 4 (.t 21) (some (.k (.int .i64 1))) none none,none⟩,⟨some 23,.callv (.t 19) [.t 22],none⟩,⟨some 4,.asg (.t 23),none⟩]) .ret) (.seq (.reg [⟨some 25,.bin .eql (.t 8) (.k (.str [98,97,103])),none⟩,⟨some 24,.asg (.t 25),none⟩]) (.cond (.t 24) (.seq (.reg [⟨some 26,.mv (.t 5),none⟩,⟨some 27,.fa 3 1 false (.t 3),none⟩,⟨some 28,.ld 1 false (.t 27),none⟩,⟨some 29,.slc 4 (.t 28) (some (.k (.int .i64 1))) none none,none⟩,⟨some 30,.call 33 [.t 29],none⟩,⟨some 31,.callv (.t 26) [.t 30],none⟩,⟨some 4,.asg (.t 31),none⟩]) .ret) (.seq (.reg [⟨some 33,.bin .eql (.t 8) (.k (.str [109,97,112])),none⟩,⟨some 32,.asg (.t 33),none⟩]) (.cond (.t 32) (.seq (.reg [⟨some 34,.mv (.t 5),none⟩,⟨some 35,.fa 3 1 false (.t 3),none⟩,⟨some 36,.ld 1 false (.t 35),none⟩,⟨some 37,.slc 4 (.t 36) (some (.k (.int .i64 1))) none none,none⟩,⟨some 38,.call 61 [.t 37],none⟩,⟨some 39,.callv (.t 34) [.t 38],none⟩,⟨some 4,.asg (.t 39),none⟩]) .ret) .skip)))))))))) (.seq (.reg [⟨some 4,.asg (.k (.bool false)),none⟩]) .ret)))⟩
theorem c30 : compFn Tryz.prog Tryz.f30 = some F30 := by kernel_rfl
theorem g30 : isGo Tryz.prog 30 = true := by kernel_rfl
def F31 : F := ⟨16,[.tmp 4],.seq (.reg [⟨some 3,.box (.t 1),none⟩,⟨some 4,.asg (.k (.bool false)),none⟩]) (.seq (.reg [⟨some 5,.mv (.t 0),none⟩,⟨some 6,.len (.t 5),none⟩,⟨some 7,.ld 1 false (.t 3),none⟩,⟨some 8,.len (.t 7),none⟩,⟨some 9,.bin .lss (.t 6) (.t 8),none⟩,⟨some 10,.mv (.t 9),none⟩,⟨some 11,.mv (.t 0),some (10,true)⟩,⟨some 12,.fun_ 62 [.t 3],some (10,true)⟩,⟨some 13,.call 19 [.t 11,.t 12],some (10,true)⟩,⟨some 14,.un .not (.t 13),some (10,true)⟩,⟨some 15,.pick (.t 10) (.t 14) (.k (.bool false)),none⟩,⟨some 4,.asg (.t 15),none⟩]) .ret)⟩
theorem c31 : compFn Tryz.prog Tryz.f31 = some F31 := by kernel_rfl
theorem g31 : isGo Tryz.prog 31 = true := by kernel_rfl
def F33 : F := ⟨21,[.tmp 2],.seq (.reg [⟨some 2,.asg (.k (.sl true 4 [])),none⟩]) (.seq (.reg [⟨some 3,.asg (.k (.sl true 4 [])),none⟩]) (.seq (.seq (.reg [⟨some 6,.mv (.t 0),none⟩,⟨some 7,.len (.t 6),none⟩,⟨some 8,.mv (.k (.int .i64 0)),none⟩]) (.block 0 (.loop (.seq (.reg [⟨some 9,.bin .lss (.t 8) (.t 7),none⟩]) (.seq (.cond (.t 9) .skip (.exit 0)) (.seq (.block 1 (.seq (.reg [⟨some 10,.ia 4 (.t 6) (.t 8),none⟩,⟨some 11,.ld 4 true (.t 10),none⟩,⟨some 5,.new (.agg [.int .i64 0,.int .i64 0,.str [],.sl true 4 []]),none⟩,⟨none,.st 4 (.t 5) (.t 11),none⟩]) (.reg [⟨some 12,.asg (.t 3),none⟩,⟨some 13,.fa 3 1 false (.t 5),none⟩,⟨some 14,.ld 1 false (.t 13),none⟩,⟨some 15,.ia 4 (.t 14) (.k (.int .i64 0)),none⟩,⟨some 16,.ld 4 true (.t 15),none⟩,⟨some 17,.mks 24 4 [.t 16],none⟩,⟨some 18,.app 22 24 4 56 (.t 12) (.t 17),none⟩,⟨some 3,.asg (.t 18),none⟩]))) (.reg [⟨some 19,.bin .add (.t 8) (.k (.int .i64 1)),none⟩,⟨some 8,.mv (.t 19),none⟩]))))))) (.seq (.reg [⟨some 20,.asg (.t 3),none⟩,⟨some 2,.asg (.t 20),none⟩]) .ret)))⟩
theorem c33 : compFn Tryz.prog Tryz.f33 = some F33 := by kernel_rfl
theorem g33 : isGo Tryz.prog 33 = true := by kernel_rfl
def F59 : F := ⟨7,[.tmp 3],.seq (.reg [⟨some 3,.asg (.k (.bool false)),none⟩]) (.seq (.reg [⟨some 4,.mv (.t 0),none⟩,⟨some 5,.fun_ 60 [.t 1],none⟩,⟨some 6,.call 19 [.t 4,.t 5],none⟩,⟨some 3,.asg (.t 6),none⟩]) .ret)⟩
theorem c59 : compFn Tryz.prog Tryz.f59 = some F59 := by kernel_rfl
theorem g59 : isGo Tryz.prog 59 = true := by kernel_rfl
def F60 : F := ⟨12,[.tmp 3],.seq (.reg [⟨some 2,.box (.t 0),none⟩,⟨some 3,.asg (.k (.bool false)),none⟩]) (.seq (.reg [⟨some 4,.ld 4 true (.t 2),none⟩,⟨some 5,.ld 4 true (.t 1),none⟩,⟨some 6,.call 20 [.t 4,.t 5],none⟩,⟨some 7,.mv (.t 6),none⟩,⟨some 8,.ld 4 true (.t 1),some (7,false)⟩,⟨some 9,.ld 4 true (.t 2),some (7,false)⟩,⟨some 10,.call 30 [.t 8,.t 9],some (7,false)⟩,⟨some 11,.pick (.t 7) (.k (.bool true)) (.t 10),none⟩,⟨some 3,.asg (.t 11),none⟩]) .ret)⟩
theorem c60 : compFn Tryz.prog Tryz.f60 = some F60 := by kernel_rfl
theorem g60 : isGo Tryz.prog 60 = true := by kernel_rfl
def F61 : F := ⟨21,[.tmp 2],.seq (.reg [⟨some 2,.asg (.k (.sl true 4 [])),none⟩]) (.seq (.reg [⟨some 3,.asg (.k (.sl true 4 [])),none⟩]) (.seq (.seq (.reg [⟨some 6,.mv (.t 0),none⟩,⟨some 7,.len (.t 6),none⟩,⟨some 8,.mv (.k (.int .i64 0)),none⟩]) (.block 0 (.loop (.seq (.reg [⟨some 9,.bin .lss (.t 8) (.t 7),none⟩]) (.seq (.cond (.t 9) .skip (.exit 0)) (.seq (.block 1 (.seq (.reg [⟨some 10,.ia 4 (.t 6) (.t 8),none⟩,⟨some 11,.ld 4 true (.t 10),none⟩,⟨some 5,.new (.agg [.int .i64 0,.int .i64 0,.str [],.sl true 4 []]),none⟩,⟨none,.st 4 (.t 5) (.t 11),none⟩]) (.reg [⟨some 12,.asg (.t 3),none⟩,⟨some 13,.fa 3 1 false (.t 5),none⟩,⟨some 14,.ld 1 false (.t 13),none⟩,⟨some 15,.ia 4 (.t 14) (.k (.int .i64 1)),none⟩,⟨some 16,.ld 4 true (.t 15),none⟩,⟨some 17,.mks 24 4 [.t 16],none⟩,⟨some 18,.app 22 24 4 56 (.t 12) (.t 17),none⟩,⟨some 3,.asg (.t 18),none⟩]))) (.reg [⟨some 19,.bin .add (.t 8) (.k (.int .i64 1)),none⟩,⟨some 8,.mv (.t 19),none⟩]))))))) (.seq (.reg [⟨some 20,.asg (.t 3),none⟩,⟨some 2,.asg (.t 20),none⟩]) .ret)))⟩
theorem c61 : compFn Tryz.prog Tryz.f61 = some F61 := by kernel_rfl
theorem g61 : isGo Tryz.prog 61 = true := by kernel_rfl
def F62 : F := ⟨8,[.tmp 3],.seq (.reg [⟨some 2,.box (.t 0),none⟩,⟨some 3,.asg (.k (.bool false)),none⟩]) (.seq (.reg [⟨some 4,.ld 1 false (.t 1),none⟩,⟨some 5,.fun_ 63 [.t 2],none⟩,⟨some 6,.call 19 [.t 4,.t 5],none⟩,⟨some 7,.un .not (.t 6),none⟩,⟨some 3,.asg (.t 7),none⟩]) .ret)⟩
theorem c62 : compFn Tryz.prog Tryz.f62 = some F62 := by kernel_rfl
theorem g62 : isGo Tryz.prog 62 = true := by kernel_rfl
def F63 : F := ⟨7,[.tmp 3],.seq (.reg [⟨some 2,.box (.t 0),none⟩,⟨some 3,.asg (.k (.bool false)),none⟩]) (.seq (.reg [⟨some 4,.ld 4 true (.t 1),none⟩,⟨some 5,.ld 4 true (.t 2),none⟩,⟨some 6,.call 20 [.t 4,.t 5],none⟩,⟨some 3,.asg (.t 6),none⟩]) .ret)⟩
theorem c63 : compFn Tryz.prog Tryz.f63 = some F63 := by kernel_rfl
theorem g63 : isGo Tryz.prog 63 = true := by kernel_rfl
def F18 : F := ⟨6,[.tmp 2],.seq (.reg [⟨some 1,.box (.t 0),none⟩,⟨some 2,.asg (.k (.bool false)),none⟩]) (.seq (.reg [⟨some 3,.ld 4 true (.t 1),none⟩,⟨some 4,.call 14 [.t 3],none⟩,⟨some 5,.un .not (.t 4),none⟩,⟨some 2,.asg (.t 5),none⟩]) .ret)⟩
theorem c18 : compFn Tryz.prog Tryz.f18 = some F18 := by kernel_rfl
theorem g18 : isGo Tryz.prog 18 = true := by kernel_rfl
def F19 : F := ⟨9,[.tmp 4],.seq (.reg [⟨some 4,.asg (.k (.bool false)),none⟩]) (.seq (.reg [⟨some 5,.mv (.t 0),none⟩,⟨some 6,.mv (.t 1),none⟩,⟨some 7,.call 42 [.t 5,.t 6],none⟩,⟨some 8,.bin .geq (.t 7) (.k (.int .i64 0)),none⟩,⟨some 4,.asg (.t 8),none⟩]) .ret)⟩
theorem c19 : compFn Tryz.prog Tryz.f19 = some F19 := by kernel_rfl
theorem g19 : isGo Tryz.prog 19 = true := by kernel_rfl
def F42 : F := ⟨19,[.tmp 4],.seq (.reg [⟨some 4,.asg (.k (.int .i64 0)),none⟩]) (.seq (.seq (.reg [⟨some 6,.mv (.t 0),none⟩,⟨some 7,.len (.t 6),none⟩,⟨some 8,.mv (.k (.int .i64 0)),none⟩]) (.block 0 (.loop (.seq (.reg [⟨some 9,.bin .lss (.t 8) (.t 7),none⟩]) (.seq (.cond (.t 9) .skip (.exit 0)) (.seq (.block 1 (.seq (.reg [⟨some 10,.mv (.t 8),none⟩,⟨some 5,.asg (.t 10),none⟩]) (.seq (.reg [⟨some 11,.mv (.t 1),none⟩,⟨some 12,.mv (.t 0),none⟩,⟨some 13,.mv (.t 5),none⟩,⟨some 14,.ia 4 (.t 12) (.t 13),none⟩,⟨some 15,.ld 4 true (.t 14),none⟩,⟨some 16,.callv (.t 11) [.t 15],none⟩]) (.cond (.t 16) (.seq (.reg [⟨some 17,.asg (.t 5),none⟩,⟨some 4,.asg (.t 17),none⟩]) .ret) .skip)))) (.reg [⟨some 18,.bin .add (.t 8) (.k (.int .i64 1)),none⟩,⟨some 8,.mv (.t 18),none⟩]))))))) (.seq (.reg [⟨some 4,.asg (.k (.int .i64 (-1))),none⟩]) .ret))⟩
theorem c42 : compFn Tryz.prog Tryz.f42 = some F42 := by kernel_rfl
theorem g42 : isGo Tryz.prog 42 = true := by kernel_rfl
def F8 : F := ⟨49,[.tmp 4,.tmp 5],.seq (.reg [⟨some 4,.asg (.k (.bool false)),none⟩,⟨some 5,.asg (.k (.int .i64 0)),none⟩]) (.seq (.reg [⟨some 6,.asg (.k (.fn 18 [])),none⟩]) (.seq (.seq (.reg [⟨some 8,.mv (.t 0),none⟩,⟨some 9,.mv (.t 6),none⟩,⟨some 10,.call 19 [.t 8,.t 9],none⟩,⟨some 11,.mv (.t 10),none⟩,⟨some 12,.mv (.t 1),some (11,false)⟩,⟨some 13,.mv (.t 6),some (11,false)⟩,⟨some 14,.call 19 [.t 12,.t 13],some (11,false)⟩,⟨some 15,.pick (.t 11) (.k (.bool true)) (.t 14),none⟩]) (.cond (.t 15) (.seq (.reg [⟨some 4,.asg (.k (.bool false)),none⟩,⟨some 5,.asg (.k (.int .i64 1)),none⟩]) .ret) .skip)) (.seq (.seq (.reg [⟨some 16,.mv (.t 0),none⟩,⟨some 17,.len (.t 16),none⟩,⟨some 18,.mv (.t 1),none⟩,⟨some 19,.len (.t 18),none⟩,⟨some 20,.mnx false (.t 17) [.t 19],none⟩,⟨some 21,.mv (.k (.int .i64 0)),none⟩]) (.block 0 (.loop (.seq (.reg [⟨some 22,.bin .lss (.t 21) (.t 20),none⟩]) (.seq (.cond (.t 22) .skip (.exit 0)) (.seq (.block 1 (.seq (.reg [⟨some 23,.mv (.t 21),none⟩,⟨some 7,.asg (.t 23),none⟩]) (.seq (.draw 10 [⟨some 24,.mv (.t 0),none⟩,⟨some 25,.mv (.t 7),none⟩,⟨some 26,.ia 4 (.t 24) (.t 25),none⟩,⟨some 27,.ld 4 true (.t 26),none⟩,⟨some 28,.mv (.t 1),none⟩,⟨some 29,.mv (.t 7),none⟩,⟨some 30,.ia 4 (.t 28) (.t 29),none⟩,⟨some 31,.ld 4 true (.t 30),none⟩,⟨some 32,.call 20 [.t 27,.t 31],none⟩,⟨some 33,.un .not (.t 32),none⟩]) (.cond (.t 33) (.seq (.draw 9 [⟨some 34,.mv (.t 0),none⟩,⟨some 35,.mv (.t 7),none⟩,⟨some 36,.ia 4 (.t 34) (.t 35),none⟩,⟨some 37,.ld 4 true (.t 36),none⟩,⟨some 38,.mv (.t 1),none⟩,⟨some 39,.mv (.t 7),none⟩,⟨some 40,.ia 4 (.t 38) (.t 39),none⟩,⟨some 41,.ld 4 true (.t 40),none⟩,⟨some 42,.call 15 [.t 37,.t 41],none⟩,⟨some 4,.asg (.t 42),none⟩,⟨some 5,.asg (.k (.int .i64 0)),none⟩]) .ret) .skip)))) (.reg [⟨some 43,.bin .add (.t 21) (.k (.int .i64 1)),none⟩,⟨some 21,.mv (.t 43),none⟩]))))))) (.seq (.reg [⟨some 44,.mv (.t 0),none⟩,⟨some 45,.len (.t 44),none⟩,⟨some 46,.mv (.t 1),none⟩,⟨some 47,.len (.t 46),none⟩,⟨some 48,.bin .lss (.t 45) (.t 47),none⟩,⟨some 4,.asg (.t 48),none⟩,⟨some 5,.asg (.k (.int .i64 0)),none⟩]) .ret))))⟩
theorem c8 : compFn Tryz.prog Tryz.f8 = some F8 := by kernel_rfl
theorem g8 : isGo Tryz.prog 8 = true := by kernel_rfl
def F4 : F := ⟨120,[.tmp 12],.seq (.reg [⟨some 6,.box (.t 0),none⟩,⟨some 7,.box (.t 1),none⟩,⟨some 8,.box (.t 2),none⟩,⟨some 12,.asg (.k (.bool false)),none⟩]) (.seq (.reg [⟨some 26,.ld 4 true (.t 6),none⟩,⟨some 27,.ld 4 true (.t 6),none⟩,⟨some 28,.call 6 [.t 26,.t 27],none⟩,⟨some 25,.mv (.t 28),none⟩,⟨some 29,.ext (.t 25) 0,none⟩,⟨some 30,.ext (.t 25) 1,none⟩,⟨some 13,.asg (.t 29),none⟩,⟨some 14,.asg (.t 30),none⟩]) (.seq (.seq (.reg [⟨some 31,.mv (.t 14),none⟩,⟨some 32,.bin .eql (.t 31) (.k (.int .i64 0)),none⟩,⟨some 33,.mv (.t 32),none⟩,⟨some 34,.mv (.t 13),some (33,true)⟩,⟨some 35,.pick (.t 33) (.t 34) (.k (.bool false)),none⟩]) (.cond (.t 35) (.seq (.reg [⟨some 12,.asg (.k (.bool false)),none⟩]) .ret) .skip)) (.seq (.reg [⟨some 37,.ld 4 true (.t 6),none⟩,⟨some 38,.ld 4 true (.t 7),none⟩,⟨some 39,.call 6 [.t 37,.t 38],none⟩,⟨some 36,.mv (.t 39),none⟩,⟨some 40,.ext (.t 36) 0,none⟩,⟨some 41,.ext (.t 36) 1,none⟩,⟨some 15,.asg (.t 40),none⟩,⟨some 14,.asg (.t 41),none⟩]) (.seq (.reg [⟨some 43,.ld 4 true (.t 7),none⟩,⟨some 44,.ld 4 true (.t 8),none⟩,⟨some 45,.call 6 [.t 43,.t 44],none⟩,⟨some 42,.mv (.t 45),none⟩,⟨some 46,.ext (.t 42) 0,none⟩,⟨some 47,.ext (.t 42) 1,none⟩,⟨some 16,.asg (.t 46),none⟩,⟨some 17,.asg (.t 47),none⟩]) (.seq (.seq (.reg [⟨some 48,.mv (.t 14),none⟩,⟨some 49,.bin .eql (.t 48) (.k (.int .i64 0)),none⟩,⟨some 50,.mv (.t 49),none⟩,⟨some 51,.mv (.t 17),some (50,true)⟩,⟨some 52,.bin .eql (.t 51) (.k (.int .i64 0)),some (50,true)⟩,⟨some 53,.pick (.t 50) (.t 52) (.k (.bool false)),none⟩,⟨some 54,.mv (.t 53),none⟩,⟨some 55,.mv (.t 15),some (54,true)⟩,⟨some 56,.pick (.t 54) (.t 55) (.k (.bool false)),none⟩,⟨some 57,.mv (.t 56),none⟩,⟨some 58,.mv (.t 16),some (57,true)⟩,⟨some 59,.pick (.t 57) (.t 58) (.k (.bool false)),none⟩]) (.cond (.t 59) (.seq (.reg [⟨some 61,.ld 4 true (.t 6),none⟩,⟨some 62,.ld 4 true (.t 8),none⟩,⟨some 63,.call 6 [.t 61,.t 62],none⟩,⟨some 60,.mv (.t 63),none⟩,⟨some 64,.ext (.t 60) 0,none⟩,⟨some 65,.ext (.t 60) 1,none⟩,⟨some 18,.asg (.t 64),none⟩,⟨some 19,.asg (.t 65),none⟩]) (.seq (.reg [⟨some 66,.mv (.t 19),none⟩,⟨some 67,.bin .neq (.t 66) (.k (.int .i64 0)),none⟩,⟨some 68,.mv (.t 67),none⟩,⟨some 69,.mv (.t 18),some (68,false)⟩,⟨some 70,.un .not (.t 69),some (68,false)⟩,⟨some 71,.pick (.t 68) (.k (.bool true)) (.t 70),none⟩]) (.cond (.t 71) (.seq (.reg [⟨some 12,.asg (.k (.bool false)),none⟩]) .ret) .skip))) .skip)) (.seq (.reg [⟨some 73,.mv (.t 3),none⟩,⟨some 74,.mv (.t 3),none⟩,⟨some 75,.call 8 [.t 73,.t 74],none⟩,⟨some 72,.mv (.t 75),none⟩,⟨some 76,.ext (.t 72) 0,none⟩,⟨some 77,.ext (.t 72) 1,none⟩,⟨some 20,.asg (.t 76),none⟩,⟨some 14,.asg (.t 77),none⟩]) (.seq (.seq (.reg [⟨some 78,.mv (.t 14),none⟩,⟨some 79,.bin .eql (.t 78) (.k (.int .i64 0)),none⟩,⟨some 80,.mv (.t 79),none⟩,⟨some 81,.mv (.t 20),some (80,true)⟩,⟨some 82,.pick (.t 80) (.t 81) (.k (.bool false)),none⟩]) (.cond (.t 82) (.seq (.reg [⟨some 12,.asg (.k (.bool false)),none⟩]) .ret) .skip)) (.seq (.reg [⟨some 84,.mv (.t 3),none⟩,⟨some 85,.mv (.t 4),none⟩,⟨some 86,.call 8 [.t 84,.t 85],none⟩,⟨some 83,.mv (.t 86),none⟩,⟨some 87,.ext (.t 83) 0,none⟩,⟨some 88,.ext (.t 83) 1,none⟩,⟨some 21,.asg (.t 87),none⟩,⟨some 14,.asg (.t 88),none⟩]) (.seq (.reg [⟨some 90,.mv (.t 4),none⟩,⟨some 91,.mv (.t 5),none⟩,⟨some 92,.call 8 [.t 90,.t 91],none⟩,⟨some 89,.mv (.t 92),none⟩,⟨some 93,.ext (.t 89) 0,none⟩,⟨some 94,.ext (.t 89) 1,none⟩,⟨some 22,.asg (.t 93),none⟩,⟨some 17,.asg (.t 94),none⟩]) (.seq (.seq (.reg [⟨some 95,.mv (.t 14),none⟩,⟨some 96,.bin .eql (.t 95) (.k (.int .i64 0)),none⟩,⟨some 97,.mv (.t 96),none⟩,⟨some 98,.mv (.t 17),some (97,true)⟩,⟨some 99,.bin .eql (.t 98) (.k (.int .i64 0)),some (97,true)⟩,⟨some 100,.pick (.t 97) (.t 99) (.k (.bool false)),none⟩,⟨some 101,.mv (.t 100),none⟩,⟨some 102,.mv (.t 21),some (101,true)⟩,⟨some 103,.pick (.t 101) (.t 102) (.k (.bool false)),none⟩,⟨some 104,.mv (.t 103),none⟩,⟨some 105,.mv (.t 22),some (104,true)⟩,⟨some 106,.pick (.t 104) (.t 105) (.k (.bool false)),none⟩]) (.cond (.t 106) (.seq (.reg [⟨some 108,.mv (.t 3),none⟩,⟨some 109,.mv (.t 5),none⟩,⟨some 110,.call 8 [.t 108,.t 109],none⟩,⟨some 107,.mv (.t 110),none⟩,⟨some 111,.ext (.t 107) 0,none⟩,⟨some 112,.ext (.t 107) 1,none⟩,⟨some 23,.asg (.t 111),none⟩,⟨some 24,.asg (.t 112),none⟩]) (.seq (.reg [⟨some 113,.mv (.t 24),none⟩,⟨some 114,.bin .neq (.t 113) (.k (.int .i64 0)),none⟩,⟨some 115,.mv (.t 114),none⟩,⟨some 116,.mv (.t 23),some (115,false)⟩,⟨some 117,.un .not (.t 116),some (115,false)⟩,⟨some 118,.pick (.t 115) (.k (.bool true)) (.t 117),none⟩]) (.cond (.t 118) (.seq (.reg [⟨some 12,.asg (.k (.bool false)),none⟩]) .ret) .skip))) .skip)) (.seq (.reg [⟨some 119,.call 10 [],none⟩,⟨some 12,.asg (.t 119),none⟩]) .ret)))))))))))⟩
theorem c4 : compFn Tryz.prog Tryz.f4 = some F4 := by kernel_rfl
theorem g4 : isGo Tryz.prog 4 = true := by kernel_rfl
end Go.Pl.Z
end
section
open Go Go.Pl Go.Proofs
namespace Go.Pl.Z
set_option maxRecDepth 100000
theorem le_frame {H : Nat → Nat → Option V} {n b c : Nat} {O : Ops} {hO : O = Ops.std} : St.le ⟨H, n, b, c, O, hO⟩ (frameS H n O hO []) := by
 refine ⟨fun _ _ _ h => h, fun i k h => ?_⟩
 rw [ok_iff] at h ⊢
 simp only [frameS] at h ⊢
 omega
theorem le_enter {H : Nat → Nat → Option V} {n b c : Nat} {O : Ops} {hO : O = Ops.std} : St.le ⟨H, n, b, c, O, hO⟩ ⟨H, n + 1, n, 0, O, hO⟩ := by
 refine ⟨fun _ _ _ h => h, fun i k h => ?_⟩
 rw [ok_iff] at h ⊢
 simp only at h ⊢
 omega
def idxF (p : Fm → Bool) : List Fm → Int → Int
 | [], _ => -1
 | f :: r, i => bif p f then i else idxF p r (i + 1)
theorem idxF_any (p : Fm → Bool) : ∀ (l : List Fm) (i : Int), 0 ≤ i → decide (0 ≤ idxF p l i) = l.any p
 | [], i, _ => by simp [idxF]
 | f :: r, i, h => by
  have ih := idxF_any p r (i + 1) (by omega)
  rw [List.any_cons, ← ih]
  unfold idxF
  by_cases hp : p f = true
  ·simp [hp, h]
  ·simp [hp]
   cases r <;> simp [idxF]
theorem p42v (P : Program) (fn : Func) (hm : P.follows .mixedOrders = true) (hf : P.funcs[42]? = some fn) (hgo : isGo P 42 = true) (hc : compFn P fn = some F42)
  (nl : Bool) (l : List Fm) (g : Nat) (caps : List V) (p : Fm → Bool) (hl : l.length ≤ 1000000000) (S : St) (hcaps : V.refsBs S.ok caps)
  (h : ∀ f ∈ l, Pl.Pure P g (enc f :: caps) S (.bool (p f))) : Pl.Pure P 42 [.sl nl 4 (encs l), .fn g caps] S (.int .i64 (idxF p l 0)) := by
 refine Pure_of_vc hm hf hgo hc (Nat.le_of_ble_eq_true rfl) (by simp only [V.refsB]) fun S' hle hw => ?_
 have hcaps' : V.refsBs S'.ok caps := refsBs_mono hle.2 caps hcaps
 have h' : ∀ f ∈ l, Pl.Pure P g (enc f :: caps) S' (.bool (p f)) := fun f hf => (h f hf).le hle
 clear h hcaps hle
 obtain ⟨H, n, b, c, O, hO⟩ := S'
 have hL := w_lenE hO l
 have gL := w_getE hO l
 obtain ⟨L, eL⟩ : ∃ L : Int, L = l.length := ⟨_, rfl⟩
 rw [← eL] at hL
 have rL := encs_refsB (frameS H n O hO []).ok l
 have rC : V.refsBs (frameS H n O hO []).ok caps := refsBs_mono le_frame.2 caps hcaps'
 have h2 : ∀ f ∈ l, Pl.Pure P g (enc f :: caps) (frameS H n O hO []) (.bool (p f)) := fun f hf => (h' f hf).le le_frame
 clear h' hcaps'
 simp only [St.enter]
 generalize encs l = xs at hL gL rL ⊢
 generalize hv : idxF p l 0 = v
 (try cbv;repeat (simp only [w_same hO,hL];try cbv))
 refine AW_loopT (A := Nat × Int) (fun a => [(0, .sl nl 4 xs), (1, .fn g caps), (7, .int .i64 L), (8, .int .i64 a.2)]) (fun _ => frameS H n O hO [])
  (fun a => a.2 = a.1 ∧ a.1 ≤ l.length ∧ v = idxF p (l.drop a.1) a.2) (fun a => l.length - a.1) (0, 0) ⟨rfl, Nat.zero_le _, hv.symm⟩
  (Drops.tab hw (Nat.le_refl _) [] (fun _ _ _ => rfl) trivial (by simp only [tabOk, V.refsB]; exact ⟨.inl rfl, rL, .inl rfl, rC, .inl rfl, trivial, .inl rfl, trivial, trivial⟩)) ?_
 rintro ⟨i, j⟩ ⟨hj, hi, hin⟩ K hK
 simp only at hj hi hin hK
 replace hj : j = (i : Int) := hj
 replace eL : L = (l.length : Int) := eL
 by_cases hlt : i < l.length
 ·have e1 : O.ilt j L = true := w_ilt_t hO (by omega)
  have g1 : O.get xs j = some (enc l[i]) := gL i j hj hlt
  have hp := h2 l[i] (List.getElem_mem hlt)
  rw [List.drop_eq_getElem_cons hlt] at hin
  simp only [idxF] at hin
  clear gL h2
  generalize l[i] = f at g1 hin hp
  generalize p f = pf at hp hin
  obtain ⟨fk, fm, ft, fn, fl⟩ := f
  simp only [enc] at g1 hp
  generalize encs fl = ys at g1 hp
  obtain ⟨j', hj'⟩ : ∃ j', j' = j + 1 := ⟨_, rfl⟩
  have hadd := w_add hO (a := j) (b := 1) (by omega) (by omega)
  rw [← hj'] at hadd hin
  cases pf
  ·simp only [cond_false] at hin
   (try cbv;repeat (simp only [w_same hO,e1,g1];try cbv))
   refine Pure.go hp ?_
   (try cbv;repeat (simp only [w_same hO,hadd];try cbv))
   replace hj' : j' = j + 1 := hj'
   replace hj : j = (i : Int) := hj
   exact hK _ _ (i + 1, j') (by show l.length - (i + 1) < l.length - i; omega) ⟨(by omega : j' = ((i + 1 : Nat) : Int)), (by omega : i + 1 ≤ l.length), hin⟩
    (Drops.tab hw (Nat.le_refl _) [] (fun i k hne => rfl) trivial (by simp only [tabOk, V.refsB]; exact ⟨.inl rfl, rL, .inl rfl, rC, .inl rfl, trivial, .inl rfl, trivial, trivial⟩))
  ·simp only [cond_true] at hin
   rw [hin]
   (try cbv;repeat (simp only [w_same hO,e1,g1];try cbv))
   refine Pure.go hp ?_
   (try cbv;repeat (simp only [w_same hO];try cbv))
   (intro i k x hx;have hne:=WFS.ne hw i k x hx;first|exact hx|(simp (disch:=assumption) only [w_upd2_ne hO];exact hx))
 ·have e1 : O.ilt j L = false := w_ilt_f hO (by omega)
  have : l.drop i = [] := List.drop_eq_nil_of_le (by omega)
  rw [this] at hin
  simp only [idxF] at hin
  rw [hin]
  (try cbv;repeat (simp only [w_same hO,e1];try cbv))
  (intro i k x hx;have hne:=WFS.ne hw i k x hx;first|exact hx|(simp (disch:=assumption) only [w_upd2_ne hO];exact hx))
theorem p19v (P : Program) (fn : Func) (hm : P.follows .mixedOrders = true) (hf : P.funcs[19]? = some fn) (hgo : isGo P 19 = true) (hc : compFn P fn = some F19)
  (nl : Bool) (xs : List V) (g : Nat) (caps : List V) (v : Int) (S : St) (h : Pl.Pure P 42 [.sl nl 4 xs, .fn g caps] S (.int .i64 v)) : Pl.Pure P 19 [.sl nl 4 xs, .fn g caps] S (.bool (decide (0 ≤ v))) := by
 refine Pure_of_vc hm hf hgo hc (Nat.le_of_ble_eq_true rfl) (by simp only [V.refsB]) fun S' hle hw => ?_
 have h' := h.le hle
 clear h hle
 obtain ⟨H, n, b, c, O, hO⟩ := S'
 have h2 := h'.le le_enter
 clear h'
 have e1 := v_ile hO 0 v
 generalize decide (0 ≤ v) = t at e1 ⊢
 simp only [St.enter]
 (try cbv;repeat (simp only [w_same hO];try cbv))
 refine Pure.go h2 ?_
 (try cbv;repeat (simp only [w_same hO,e1];try cbv))
 (intro i k x hx;have hne:=WFS.ne hw i k x hx;first|exact hx|(simp (disch:=assumption) only [w_upd2_ne hO];exact hx))
theorem p19 (nl : Bool) (l : List Fm) (g : Nat) (caps : List V) (p : Fm → Bool) (hl : l.length ≤ 1000000000) (S : St) (hcaps : V.refsBs S.ok caps)
  (h : ∀ f ∈ l, Pl.Pure Tryz.prog g (enc f :: caps) S (.bool (p f))) : Pl.Pure Tryz.prog 19 [.sl nl 4 (encs l), .fn g caps] S (.bool (l.any p)) := by
 rw [← idxF_any p l 0 (Int.le_refl _)]
 exact p19v _ _ Z.hm Tryz.func19 g19 c19 nl _ g caps _ S (p42v _ _ Z.hm Tryz.func42 g42 c42 nl l g caps p hl S hcaps h)
end Go.Pl.Z
end
section
open Go Go.Pl Go.Proofs
namespace Go.Pl.Z
set_option maxRecDepth 100000
theorem bl_irrefl : ∀ (t : List UInt8), Op.bytesLess t t = false
 | [] => by simp [Op.bytesLess]
 | a :: l => by simp [Op.bytesLess, bl_irrefl l]
end Go.Pl.Z
end
section
open Go Go.Pl
namespace Go.Pl.Z
theorem cmpI_zero (a b : Int) : cmpI a b = 0 ↔ a = b := by
 unfold cmpI
 split
 ·constructor <;> intro h <;> omega
 ·split
  ·constructor <;> intro h <;> omega
  ·constructor <;> intro h <;> omega
theorem cmpS_zero (a b : List UInt8) : cmpS a b = 0 ↔ a = b := by
 unfold cmpS
 constructor
 ·intro h
  split at h
  ·cases h
  ·split at h
   ·assumption
   ·cases h
 ·rintro rfl
  rw [bl_irrefl]; simp
def Same (f g : Fm) : Prop := cmpF f g = 0
def Sames (l m : List Fm) : Prop := cmpL l m = 0
theorem same_iff (k n : Int) (t : List UInt8) (b : Bool) (l : List Fm) (k' n' : Int) (t' : List UInt8) (b' : Bool) (l' : List Fm) :
  Same (.mk k n t b l) (.mk k' n' t' b' l') ↔ k = k' ∧ (k = 0 → n = n') ∧ (k = 1 ∨ k = 2 → t = t') ∧ (k = 3 → Sames l l') := by
 unfold Same Sames
 simp only [cmpF]
 by_cases hk : k = k'
 ·subst hk
  rw [if_neg (by simp)]
  by_cases h0 : k = 0
  ·rw [if_pos h0, cmpI_zero]
   constructor
   ·intro h; exact ⟨rfl, fun _ => h, fun h' => by omega, fun h' => by omega⟩
   ·intro h; exact h.2.1 h0
  ·rw [if_neg h0]
   by_cases h1 : k = 1 ∨ k = 2
   ·rw [if_pos h1, cmpS_zero]
    constructor
    ·intro h; exact ⟨rfl, fun h' => absurd h' h0, fun _ => h, fun h' => by omega⟩
    ·intro h; exact h.2.2.1 h1
   ·rw [if_neg h1]
    by_cases h3 : k = 3
    ·rw [if_pos h3]
     constructor
     ·intro h; exact ⟨rfl, fun h' => absurd h' h0, fun h' => absurd h' h1, fun _ => h⟩
     ·intro h; exact h.2.2.2 h3
    ·rw [if_neg h3]
     constructor
     ·intro _; exact ⟨rfl, fun h' => absurd h' h0, fun h' => absurd h' h1, fun h' => absurd h' h3⟩
     ·intro _; rfl
 ·rw [if_pos hk, cmpI_zero]
  constructor
  ·intro h; exact absurd h hk
  ·intro h; exact h.1
theorem sames_nil : Sames [] [] := by unfold Sames; simp only [cmpL]
theorem sames_nc (b : Fm) (s : List Fm) : ¬ Sames [] (b :: s) := by unfold Sames; simp only [cmpL]; decide
theorem sames_cn (a : Fm) (r : List Fm) : ¬ Sames (a :: r) [] := by unfold Sames; simp only [cmpL]; decide
theorem sames_cons (a b : Fm) (r s : List Fm) : Sames (a :: r) (b :: s) ↔ Same a b ∧ Sames r s := by
 unfold Sames Same
 simp only [cmpL]
 by_cases h : cmpF a b = 0
 ·simp [h]
 ·simp [h]
mutual
theorem Same.refl : ∀ (f : Fm), Same f f
 | .mk k n t b l => (same_iff ..).2 ⟨rfl, fun _ => rfl, fun _ => rfl, fun _ => Sames.refl l⟩
theorem Sames.refl : ∀ (l : List Fm), Sames l l
 | [] => sames_nil
 | f :: r => (sames_cons ..).2 ⟨Same.refl f, Sames.refl r⟩
end
mutual
theorem Same.symm : ∀ (f g : Fm), Same f g → Same g f
 | .mk k n t b l, .mk k' n' t' b' l', h => by
  obtain ⟨rfl, h1, h2, h3⟩ := (same_iff ..).1 h
  exact (same_iff ..).2 ⟨rfl, fun e => (h1 e).symm, fun e => (h2 e).symm, fun e => Sames.symm l l' (h3 e)⟩
theorem Sames.symm : ∀ (l m : List Fm), Sames l m → Sames m l
 | [], [], _ => sames_nil
 | [], b :: s, h => absurd h (sames_nc b s)
 | a :: r, [], h => absurd h (sames_cn a r)
 | a :: r, b :: s, h => by
  obtain ⟨h1, h2⟩ := (sames_cons ..).1 h
  exact (sames_cons ..).2 ⟨Same.symm a b h1, Sames.symm r s h2⟩
end
mutual
theorem Same.trans : ∀ (f g h : Fm), Same f g → Same g h → Same f h
 | .mk k n t b l, .mk k' n' t' b' l', .mk k2 n2 t2 b2 l2, h, h' => by
  obtain ⟨rfl, h1, h2, h3⟩ := (same_iff ..).1 h
  obtain ⟨rfl, q1, q2, q3⟩ := (same_iff ..).1 h'
  exact (same_iff ..).2 ⟨rfl, fun e => (h1 e).trans (q1 e), fun e => (h2 e).trans (q2 e), fun e => Sames.trans l l' l2 (h3 e) (q3 e)⟩
theorem Sames.trans : ∀ (l m p : List Fm), Sames l m → Sames m p → Sames l p
 | [], [], _, _, h => h
 | [], b :: s, _, h, _ => absurd h (sames_nc b s)
 | a :: r, [], _, h, _ => absurd h (sames_cn a r)
 | a :: r, b :: s, [], _, h => absurd h (sames_cn b s)
 | a :: r, b :: s, c :: t, h, h' => by
  obtain ⟨h1, h2⟩ := (sames_cons ..).1 h
  obtain ⟨q1, q2⟩ := (sames_cons ..).1 h'
  exact (sames_cons ..).2 ⟨Same.trans a b c h1 q1, Sames.trans r s t h2 q2⟩
end
theorem Sames.length : ∀ (l m : List Fm), Sames l m → l.length = m.length
 | [], [], _ => rfl
 | [], b :: s, h => absurd h (sames_nc b s)
 | a :: r, [], h => absurd h (sames_cn a r)
 | a :: r, b :: s, h => by simp [Sames.length r s ((sames_cons ..).1 h).2]
end Go.Pl.Z
end

import Derived.Test.YtllbopmdpmjcpaaGreatDoorM10
import Derived.Test.YtllbopmdpmjcpaaGreatDoorM11
import Derived.Test.YtllbopmdpmjcpaaGreatDoorM13
import Derived.Test.YtllbopmdpmjcpaaGreatDoorM19
set_option linter.unusedSimpArgs false
set_option linter.unusedVariables false
set_option linter.unusedSectionVars false
section
open Go Go.Pl Go.Proofs
namespace Go.Pl.Z
def F133 : F := ⟨6,[],.seq (.reg [⟨some 2,.mv (.t 0),none⟩,⟨some 3,.un .not (.t 2),none⟩]) (.cond (.t 3) (.reg [⟨some 4,.mk [.int .i64 0] [(0,1,(.k (.int .i64 4)))],none⟩,⟨some 5,.mki 95 (.t 4),none⟩,⟨none,.pan (.t 5),none⟩]) .skip)⟩
theorem c133 : compFn Tryz.prog Tryz.f133 = some F133 := by kernel_rfl
theorem g133 : isGo Tryz.prog 133 = true := by kernel_rfl
def F89 : F := ⟨6,[.tmp 2],.seq (.reg [⟨some 1,.box (.t 0),none⟩,⟨some 2,.asg (.k (.int .i64 0)),none⟩]) (.seq (.reg [⟨some 3,.ld 4 true (.t 1),none⟩,⟨some 4,.fun_ 110 [.t 1],none⟩,⟨some 5,.call 109 [.t 3,.t 4],none⟩,⟨some 2,.asg (.t 5),none⟩]) .ret)⟩
theorem c89 : compFn Tryz.prog Tryz.f89 = some F89 := by kernel_rfl
theorem g89 : isGo Tryz.prog 89 = true := by kernel_rfl
def F110 : F := ⟨3,[],.reg [⟨some 1,.ld 4 true (.t 0),none⟩,⟨some 2,.call 111 [.t 1],none⟩]⟩
theorem c110 : compFn Tryz.prog Tryz.f110 = some F110 := by kernel_rfl
theorem g110 : isGo Tryz.prog 110 = true := by kernel_rfl
def F91 : FD := ⟨17,[.cell 2 4 true,.cell 3 1 false],[.reg [⟨some 2,.new (.agg [.int .i64 0,.int .i64 0,.str [],.sl true 4 []]),none⟩,⟨some 3,.new (.int .i64 0),none⟩]],4,112,[.t 2,.t 3],.seq (.reg [⟨some 5,.mv (.t 0),none⟩,⟨some 6,.callv (.t 5) [],none⟩,⟨none,.st 4 (.t 2) (.t 6),none⟩]) (.seq (.seq (.reg [⟨some 7,.ld 4 true (.t 2),none⟩,⟨some 8,.call 113 [.t 7],none⟩,⟨some 9,.bin .gtr (.t 8) (.k (.int .i64 2000)),none⟩,⟨some 10,.mv (.t 9),none⟩,⟨some 11,.ld 4 true (.t 2),some (10,false)⟩,⟨some 12,.call 26 [.t 11],some (10,false)⟩,⟨some 13,.un .not (.t 12),some (10,false)⟩,⟨some 14,.pick (.t 10) (.k (.bool true)) (.t 13),none⟩]) (.cond (.t 14) (.seq (.reg [⟨some 15,.mk [.int .i64 0,.int .i64 0,.str [],.sl true 4 []] [],none⟩,⟨none,.st 4 (.t 2) (.t 15),none⟩,⟨none,.st 1 (.t 3) (.k (.int .i64 2)),none⟩]) .ret) .skip)) (.seq (.reg [⟨some 16,.ld 4 true (.t 2),none⟩,⟨none,.st 4 (.t 2) (.t 16),none⟩,⟨none,.st 1 (.t 3) (.k (.int .i64 0)),none⟩]) .ret))⟩
theorem c91 : compD Tryz.prog Tryz.f91 = some F91 := by kernel_rfl
theorem g91 : isGo Tryz.prog 91 = true := by kernel_rfl
def F109 : FD := ⟨11,[.cell 4 1 false],[.reg [⟨some 2,.box (.t 0),none⟩,⟨some 4,.new (.int .i64 0),none⟩],.seq (.reg [⟨some 5,.ld 4 true (.t 2),none⟩,⟨some 6,.call 26 [.t 5],none⟩,⟨some 7,.un .not (.t 6),none⟩]) (.cond (.t 7) (.seq (.reg [⟨none,.st 1 (.t 4) (.k (.int .i64 1)),none⟩]) .ret) .skip)],8,132,[.t 4],.seq (.reg [⟨some 9,.mv (.t 1),none⟩,⟨some 10,.callv (.t 9) [],none⟩]) (.seq (.reg [⟨none,.st 1 (.t 4) (.k (.int .i64 0)),none⟩]) .ret)⟩
theorem c109 : compD Tryz.prog Tryz.f109 = some F109 := by kernel_rfl
theorem g109 : isGo Tryz.prog 109 = true := by kernel_rfl
def F112 : FR := ⟨19,5,2,.seq (.reg [⟨some 6,.mv (.t 2),none⟩,⟨some 7,.inil true (.t 6),none⟩]) (.cond (.t 7) (.seq (.reg [⟨some 9,.mv (.t 2),none⟩,⟨some 10,.tas 81 true (.agg [.int .i64 0]) (.t 9),none⟩,⟨some 8,.mv (.t 10),none⟩,⟨some 11,.ext (.t 8) 0,none⟩,⟨some 12,.ext (.t 8) 1,none⟩,⟨some 3,.new (.agg [.int .i64 0]),none⟩,⟨none,.st 1 (.t 3) (.t 11),none⟩,⟨some 4,.asg (.t 12),none⟩]) (.seq (.seq (.reg [⟨some 13,.mv (.t 4),none⟩,⟨some 14,.un .not (.t 13),none⟩]) (.cond (.t 14) (.reg [⟨some 15,.mv (.t 2),none⟩,⟨none,.pan (.t 15),none⟩]) .skip)) (.draw 4 [⟨some 16,.mk [.int .i64 0,.int .i64 0,.str [],.sl true 4 []] [],none⟩,⟨some 17,.fa 0 1 false (.t 3),none⟩,⟨some 18,.ld 1 false (.t 17),none⟩,⟨none,.st 4 (.t 0) (.t 16),none⟩,⟨none,.st 1 (.t 1) (.t 18),none⟩]))) .skip)⟩
theorem c112 : compR Tryz.prog Tryz.f112 = some F112 := by kernel_rfl
theorem g112 : isGo Tryz.prog 112 = true := by kernel_rfl
def F132 : FR := ⟨17,4,1,.seq (.reg [⟨some 5,.mv (.t 1),none⟩,⟨some 6,.inil true (.t 5),none⟩]) (.cond (.t 6) (.seq (.reg [⟨some 8,.mv (.t 1),none⟩,⟨some 9,.tas 95 true (.agg [.int .i64 0]) (.t 8),none⟩,⟨some 7,.mv (.t 9),none⟩,⟨some 10,.ext (.t 7) 0,none⟩,⟨some 11,.ext (.t 7) 1,none⟩,⟨some 2,.new (.agg [.int .i64 0]),none⟩,⟨none,.st 1 (.t 2) (.t 10),none⟩,⟨some 3,.asg (.t 11),none⟩]) (.seq (.seq (.reg [⟨some 12,.mv (.t 3),none⟩,⟨some 13,.un .not (.t 12),none⟩]) (.cond (.t 13) (.reg [⟨some 14,.mv (.t 1),none⟩,⟨none,.pan (.t 14),none⟩]) .skip)) (.reg [⟨some 15,.fa 0 1 false (.t 2),none⟩,⟨some 16,.ld 1 false (.t 15),none⟩,⟨none,.st 1 (.t 0) (.t 16),none⟩]))) .skip)⟩
theorem c132 : compR Tryz.prog Tryz.f132 = some F132 := by kernel_rfl
theorem g132 : isGo Tryz.prog 132 = true := by kernel_rfl
end Go.Pl.Z
end
section
open Go Go.Pl Go.Proofs
namespace Go.Pl.Z
def F164 : F := ⟨18,[.tmp 4],.seq (.reg [⟨some 2,.box (.t 0),none⟩,⟨some 4,.asg (.k (.sl true 4 [])),none⟩]) (.seq (.reg [⟨some 5,.fa 0 1 false (.t 2),none⟩,⟨some 6,.ld 1 false (.t 5),none⟩,⟨some 7,.bin .eql (.t 6) (.k (.int .i64 3)),none⟩,⟨some 8,.mv (.t 7),none⟩,⟨some 9,.fa 3 1 false (.t 2),some (8,true)⟩,⟨some 10,.ld 1 false (.t 9),some (8,true)⟩,⟨some 11,.len (.t 10),some (8,true)⟩,⟨some 12,.mv (.t 1),some (8,true)⟩,⟨some 13,.bin .eql (.t 11) (.t 12),some (8,true)⟩,⟨some 14,.pick (.t 8) (.t 13) (.k (.bool false)),none⟩,⟨some 15,.call 133 [.t 14],none⟩]) (.seq (.reg [⟨some 16,.fa 3 1 false (.t 2),none⟩,⟨some 17,.ld 1 false (.t 16),none⟩,⟨some 4,.asg (.t 17),none⟩]) .ret))⟩
theorem c164 : compFn Tryz.prog Tryz.f164 = some F164 := by kernel_rfl
theorem g164 : isGo Tryz.prog 164 = true := by kernel_rfl
def F165 : F := ⟨14,[.tmp 2],.seq (.reg [⟨some 1,.box (.t 0),none⟩,⟨some 2,.asg (.k (.str [])),none⟩]) (.seq (.reg [⟨some 3,.fa 0 1 false (.t 1),none⟩,⟨some 4,.ld 1 false (.t 3),none⟩,⟨some 5,.bin .eql (.t 4) (.k (.int .i64 1)),none⟩,⟨some 6,.mv (.t 5),none⟩,⟨some 7,.fa 2 1 false (.t 1),some (6,true)⟩,⟨some 8,.ld 1 false (.t 7),some (6,true)⟩,⟨some 9,.call 56 [.t 8],some (6,true)⟩,⟨some 10,.pick (.t 6) (.t 9) (.k (.bool false)),none⟩,⟨some 11,.call 133 [.t 10],none⟩]) (.seq (.reg [⟨some 12,.fa 2 1 false (.t 1),none⟩,⟨some 13,.ld 1 false (.t 12),none⟩,⟨some 2,.asg (.t 13),none⟩]) .ret))⟩
theorem c165 : compFn Tryz.prog Tryz.f165 = some F165 := by kernel_rfl
theorem g165 : isGo Tryz.prog 165 = true := by kernel_rfl
def F206 : F := ⟨18,[.tmp 4],.seq (.reg [⟨some 2,.box (.t 0),none⟩,⟨some 4,.asg (.k (.sl true 4 [])),none⟩]) (.seq (.reg [⟨some 5,.fa 0 1 false (.t 2),none⟩,⟨some 6,.ld 1 false (.t 5),none⟩,⟨some 7,.bin .eql (.t 6) (.k (.int .i64 3)),none⟩,⟨some 8,.mv (.t 7),none⟩,⟨some 9,.fa 3 1 false (.t 2),some (8,true)⟩,⟨some 10,.ld 1 false (.t 9),some (8,true)⟩,⟨some 11,.len (.t 10),some (8,true)⟩,⟨some 12,.mv (.t 1),some (8,true)⟩,⟨some 13,.bin .geq (.t 11) (.t 12),some (8,true)⟩,⟨some 14,.pick (.t 8) (.t 13) (.k (.bool false)),none⟩,⟨some 15,.call 133 [.t 14],none⟩]) (.seq (.reg [⟨some 16,.fa 3 1 false (.t 2),none⟩,⟨some 17,.ld 1 false (.t 16),none⟩,⟨some 4,.asg (.t 17),none⟩]) .ret))⟩
theorem c206 : compFn Tryz.prog Tryz.f206 = some F206 := by kernel_rfl
theorem g206 : isGo Tryz.prog 206 = true := by kernel_rfl
def F211 : F := ⟨11,[],.seq (.reg [⟨some 1,.box (.t 0),none⟩]) (.reg [⟨some 2,.fa 0 1 false (.t 1),none⟩,⟨some 3,.ld 1 false (.t 2),none⟩,⟨some 4,.bin .eql (.t 3) (.k (.int .i64 1)),none⟩,⟨some 5,.mv (.t 4),none⟩,⟨some 6,.fa 0 1 false (.t 1),some (5,false)⟩,⟨some 7,.ld 1 false (.t 6),some (5,false)⟩,⟨some 8,.bin .eql (.t 7) (.k (.int .i64 3)),some (5,false)⟩,⟨some 9,.pick (.t 5) (.k (.bool true)) (.t 8),none⟩,⟨some 10,.call 133 [.t 9],none⟩])⟩
theorem c211 : compFn Tryz.prog Tryz.f211 = some F211 := by kernel_rfl
theorem g211 : isGo Tryz.prog 211 = true := by kernel_rfl
def F212 : F := ⟨22,[],.seq (.reg [⟨some 3,.box (.t 0),none⟩]) (.reg [⟨some 6,.fa 0 1 false (.t 3),none⟩,⟨some 7,.ld 1 false (.t 6),none⟩,⟨some 8,.bin .eql (.t 7) (.k (.int .i64 0)),none⟩,⟨some 9,.mv (.t 8),none⟩,⟨some 10,.fa 1 1 false (.t 3),some (9,true)⟩,⟨some 11,.ld 1 false (.t 10),some (9,true)⟩,⟨some 12,.mv (.t 1),some (9,true)⟩,⟨some 13,.bin .geq (.t 11) (.t 12),some (9,true)⟩,⟨some 14,.pick (.t 9) (.t 13) (.k (.bool false)),none⟩,⟨some 15,.mv (.t 14),none⟩,⟨some 16,.fa 1 1 false (.t 3),some (15,true)⟩,⟨some 17,.ld 1 false (.t 16),some (15,true)⟩,⟨some 18,.mv (.t 2),some (15,true)⟩,⟨some 19,.bin .leq (.t 17) (.t 18),some (15,true)⟩,⟨some 20,.pick (.t 15) (.t 19) (.k (.bool false)),none⟩,⟨some 21,.call 133 [.t 20],none⟩])⟩
theorem c212 : compFn Tryz.prog Tryz.f212 = some F212 := by kernel_rfl
theorem g212 : isGo Tryz.prog 212 = true := by kernel_rfl
def F167 : F := ⟨23,[.tmp 4],.seq (.reg [⟨some 2,.box (.t 0),none⟩,⟨some 4,.asg (.k (.sl true 4 [])),none⟩]) (.seq (.reg [⟨some 5,.asg (.k (.sl true 4 [])),none⟩]) (.seq (.seq (.reg [⟨some 8,.ld 4 true (.t 2),none⟩,⟨some 9,.mv (.t 1),none⟩,⟨some 10,.call 206 [.t 8,.t 9],none⟩,⟨some 11,.len (.t 10),none⟩,⟨some 12,.mv (.k (.int .i64 0)),none⟩]) (.block 0 (.loop (.seq (.reg [⟨some 13,.bin .lss (.t 12) (.t 11),none⟩]) (.seq (.cond (.t 13) .skip (.exit 0)) (.seq (.block 1 (.seq (.reg [⟨some 14,.ia 4 (.t 10) (.t 12),none⟩,⟨some 15,.ld 4 true (.t 14),none⟩,⟨some 7,.new (.agg [.int .i64 0,.int .i64 0,.str [],.sl true 4 []]),none⟩,⟨none,.st 4 (.t 7) (.t 15),none⟩]) (.reg [⟨some 16,.asg (.t 5),none⟩,⟨some 17,.ld 4 true (.t 7),none⟩,⟨some 18,.call 165 [.t 17],none⟩,⟨some 19,.mks 9 1 [.t 18],none⟩,⟨some 20,.app 75 9 1 16 (.t 16) (.t 19),none⟩,⟨some 5,.asg (.t 20),none⟩]))) (.reg [⟨some 21,.bin .add (.t 12) (.k (.int .i64 1)),none⟩,⟨some 12,.mv (.t 21),none⟩]))))))) (.seq (.reg [⟨some 22,.asg (.t 5),none⟩,⟨some 4,.asg (.t 22),none⟩]) .ret)))⟩
theorem c167 : compFn Tryz.prog Tryz.f167 = some F167 := by kernel_rfl
theorem g167 : isGo Tryz.prog 167 = true := by kernel_rfl
def F169 : F := ⟨32,[.tmp 4],.seq (.reg [⟨some 2,.box (.t 0),none⟩,⟨some 4,.asg (.k (.sl true 4 [])),none⟩]) (.seq (.reg [⟨some 5,.asg (.k (.sl true 4 [])),none⟩]) (.seq (.seq (.reg [⟨some 9,.ld 4 true (.t 2),none⟩,⟨some 10,.mv (.t 1),none⟩,⟨some 11,.call 206 [.t 9,.t 10],none⟩,⟨some 12,.len (.t 11),none⟩,⟨some 13,.mv (.k (.int .i64 0)),none⟩]) (.block 0 (.loop (.seq (.reg [⟨some 14,.bin .lss (.t 13) (.t 12),none⟩]) (.seq (.cond (.t 14) .skip (.exit 0)) (.seq (.block 1 (.seq (.reg [⟨some 15,.ia 4 (.t 11) (.t 13),none⟩,⟨some 16,.ld 4 true (.t 15),none⟩,⟨some 7,.new (.agg [.int .i64 0,.int .i64 0,.str [],.sl true 4 []]),none⟩,⟨none,.st 4 (.t 7) (.t 16),none⟩]) (.seq (.reg [⟨some 17,.ld 4 true (.t 7),none⟩,⟨some 18,.call 164 [.t 17,.k (.int .i64 2)],none⟩,⟨some 8,.asg (.t 18),none⟩]) (.seq (.reg [⟨some 19,.asg (.t 5),none⟩,⟨some 20,.mv (.t 8),none⟩,⟨some 21,.ia 4 (.t 20) (.k (.int .i64 0)),none⟩,⟨some 22,.ld 4 true (.t 21),none⟩,⟨some 23,.call 165 [.t 22],none⟩,⟨some 24,.mks 9 1 [.t 23],none⟩,⟨some 25,.app 75 9 1 16 (.t 19) (.t 24),none⟩,⟨some 5,.asg (.t 25),none⟩]) (.reg [⟨some 26,.mv (.t 8),none⟩,⟨some 27,.ia 4 (.t 26) (.k (.int .i64 1)),none⟩,⟨some 28,.ld 4 true (.t 27),none⟩,⟨some 29,.call 211 [.t 28],none⟩]))))) (.reg [⟨some 30,.bin .add (.t 13) (.k (.int .i64 1)),none⟩,⟨some 13,.mv (.t 30),none⟩]))))))) (.seq (.reg [⟨some 31,.asg (.t 5),none⟩,⟨some 4,.asg (.t 31),none⟩]) .ret)))⟩
theorem c169 : compFn Tryz.prog Tryz.f169 = some F169 := by kernel_rfl
theorem g169 : isGo Tryz.prog 169 = true := by kernel_rfl
def F170 : F := ⟨31,[.tmp 2],.seq (.reg [⟨some 2,.asg (.k (.sl true 4 [])),none⟩]) (.seq (.seq (.reg [⟨some 5,.mv (.t 0),none⟩,⟨some 6,.len (.t 5),none⟩,⟨some 7,.bin .gtr (.t 6) (.k (.int .i64 0)),none⟩,⟨some 8,.mv (.t 7),none⟩,⟨some 9,.mv (.t 0),some (8,true)⟩,⟨some 10,.ia 4 (.t 9) (.k (.int .i64 0)),some (8,true)⟩,⟨some 11,.ld 4 true (.t 10),some (8,true)⟩,⟨some 12,.call 28 [.t 11],some (8,true)⟩,⟨some 13,.bin .eql (.t 12) (.k (.str [111,102])),some (8,true)⟩,⟨some 14,.pick (.t 8) (.t 13) (.k (.bool false)),none⟩]) (.cond (.t 14) (.seq (.seq (.reg [⟨some 15,.mv (.t 0),none⟩,⟨some 16,.ia 4 (.t 15) (.k (.int .i64 0)),none⟩,⟨some 17,.ld 4 true (.t 16),none⟩,⟨some 18,.call 206 [.t 17,.k (.int .i64 2)],none⟩,⟨some 19,.slc 4 (.t 18) (some (.k (.int .i64 1))) none none,none⟩,⟨some 20,.len (.t 19),none⟩,⟨some 21,.mv (.k (.int .i64 0)),none⟩]) (.block 0 (.loop (.seq (.reg [⟨some 22,.bin .lss (.t 21) (.t 20),none⟩]) (.seq (.cond (.t 22) .skip (.exit 0)) (.seq (.block 1 (.seq (.reg [⟨some 23,.ia 4 (.t 19) (.t 21),none⟩,⟨some 24,.ld 4 true (.t 23),none⟩,⟨some 4,.new (.agg [.int .i64 0,.int .i64 0,.str [],.sl true 4 []]),none⟩,⟨none,.st 4 (.t 4) (.t 24),none⟩]) (.reg [⟨some 25,.ld 4 true (.t 4),none⟩,⟨some 26,.call 211 [.t 25],none⟩]))) (.reg [⟨some 27,.bin .add (.t 21) (.k (.int .i64 1)),none⟩,⟨some 21,.mv (.t 27),none⟩]))))))) (.seq (.reg [⟨some 28,.mv (.t 0),none⟩,⟨some 29,.slc 4 (.t 28) (some (.k (.int .i64 1))) none none,none⟩,⟨some 2,.asg (.t 29),none⟩]) .ret)) .skip)) (.seq (.reg [⟨some 30,.asg (.t 0),none⟩,⟨some 2,.asg (.t 30),none⟩]) .ret))⟩
theorem c170 : compFn Tryz.prog Tryz.f170 = some F170 := by kernel_rfl
theorem g170 : isGo Tryz.prog 170 = true := by kernel_rfl
end Go.Pl.Z
end
section
open Go Go.Pl Go.Proofs
namespace Go.Pl.Z
set_option maxRecDepth 100000
def exU : Option Int → Except Int V
 | none => .ok (.tup [])
 | some c => .error c
def wantV (b : Bool) (v : V) : Except Int V := if b then .ok v else .error 4
def exactB (f : Fm) (m : Int) : Bool := decide (f.kind = 3) && decide ((f.kids.length : Int) = m)
def listB (f : Fm) (m : Int) : Bool := decide (f.kind = 3) && decide (m ≤ (f.kids.length : Int))
def kindB (f : Fm) : Bool := decide (f.kind = 1) || decide (f.kind = 3)
def digitB (f : Fm) (lo hi : Int) : Bool := decide (f.kind = 0) && decide (lo ≤ f.n) && decide (f.n ≤ hi)
def nameFB (N : List UInt8 → Bool) (f : Fm) : Bool := decide (f.kind = 1) && N f.text
def slV (f : Fm) : V := .sl f.nl 4 (encs f.kids)
theorem w133 (P : Program) (b : Bool) : WalksT 95 P F133 [.bool b] (wantV b (.tup [])) := by
 intro H n b' c O hO hw
 cases b
 ·(try cbv;repeat (simp only [w_same hO];try cbv))
  (intro i k x hx;have hne:=WFS.ne hw i k x hx;first|exact hx|(simp (disch:=assumption) only [w_upd2_ne hO];exact hx))
 ·(try cbv;repeat (simp only [w_same hO];try cbv))
  (intro i k x hx;have hne:=WFS.ne hw i k x hx;first|exact hx|(simp (disch:=assumption) only [w_upd2_ne hO];exact hx))
theorem w164 (P : Program) (f : Fm) (m : Int) (h133 : ∀ b S, Throws 95 P 133 [.bool b] S (wantV b (.tup []))) : WalksT 95 P F164 [enc f, .int .i64 m] (wantV (exactB f m) (slV f)) := by
 intro H n b' c O hO hw
 obtain ⟨k, q, t, nl, l⟩ := f
 have hv : exactB (.mk k q t nl l) m = (decide (k = 3) && decide ((l.length : Int) = m)) := rfl
 rw [hv]
 clear hv
 simp only [slV, Fm.kids, Fm.nl, enc]
 have hL := w_lenE hO l
 have e1 := v_ieq hO k 3
 have e2 := v_ieq hO (l.length : Int) m
 have ht := h133 true
 have hf := h133 false
 clear h133
 generalize (l.length : Int) = L at hL e2 ⊢
 generalize decide (k = 3) = b1 at e1 ⊢
 generalize decide (L = m) = b2 at e2 ⊢
 generalize encs l = xs at hL ⊢
 cases b1
 ·(try cbv;repeat (simp only [w_same hO,e1];try cbv))
  refine Throws.go (hf _) ?_
  (try cbv;repeat (simp only [w_same hO];try cbv))
  (intro i k x hx;have hne:=WFS.ne hw i k x hx;first|exact hx|(simp (disch:=assumption) only [w_upd2_ne hO];exact hx))
 ·cases b2
  ·(try cbv;repeat (simp only [w_same hO,e1,hL,e2];try cbv))
   refine Throws.go (hf _) ?_
   (try cbv;repeat (simp only [w_same hO];try cbv))
   (intro i k x hx;have hne:=WFS.ne hw i k x hx;first|exact hx|(simp (disch:=assumption) only [w_upd2_ne hO];exact hx))
  ·(try cbv;repeat (simp only [w_same hO,e1,hL,e2];try cbv))
   refine Throws.go (ht _) ?_
   (try cbv;repeat (simp only [w_same hO];try cbv))
   (intro i k x hx;have hne:=WFS.ne hw i k x hx;first|exact hx|(simp (disch:=assumption) only [w_upd2_ne hO];exact hx))
theorem w206 (P : Program) (f : Fm) (m : Int) (h133 : ∀ b S, Throws 95 P 133 [.bool b] S (wantV b (.tup []))) : WalksT 95 P F206 [enc f, .int .i64 m] (wantV (listB f m) (slV f)) := by
 intro H n b' c O hO hw
 obtain ⟨k, q, t, nl, l⟩ := f
 have hv : listB (.mk k q t nl l) m = (decide (k = 3) && decide (m ≤ (l.length : Int))) := rfl
 rw [hv]
 clear hv
 simp only [slV, Fm.kids, Fm.nl, enc]
 have hL := w_lenE hO l
 have e1 := v_ieq hO k 3
 have e2 := v_ile hO m (l.length : Int)
 have ht := h133 true
 have hf := h133 false
 clear h133
 generalize (l.length : Int) = L at hL e2 ⊢
 generalize decide (k = 3) = b1 at e1 ⊢
 generalize decide (m ≤ L) = b2 at e2 ⊢
 generalize encs l = xs at hL ⊢
 cases b1
 ·(try cbv;repeat (simp only [w_same hO,e1];try cbv))
  refine Throws.go (hf _) ?_
  (try cbv;repeat (simp only [w_same hO];try cbv))
  (intro i k x hx;have hne:=WFS.ne hw i k x hx;first|exact hx|(simp (disch:=assumption) only [w_upd2_ne hO];exact hx))
 ·cases b2
  ·(try cbv;repeat (simp only [w_same hO,e1,hL,e2];try cbv))
   refine Throws.go (hf _) ?_
   (try cbv;repeat (simp only [w_same hO];try cbv))
   (intro i k x hx;have hne:=WFS.ne hw i k x hx;first|exact hx|(simp (disch:=assumption) only [w_upd2_ne hO];exact hx))
  ·(try cbv;repeat (simp only [w_same hO,e1,hL,e2];try cbv))
   refine Throws.go (ht _) ?_
   (try cbv;repeat (simp only [w_same hO];try cbv))
   (intro i k x hx;have hne:=WFS.ne hw i k x hx;first|exact hx|(simp (disch:=assumption) only [w_upd2_ne hO];exact hx))
theorem w165 (P : Program) (N : List UInt8 → Bool) (f : Fm) (h133 : ∀ b S, Throws 95 P 133 [.bool b] S (wantV b (.tup []))) (h56 : ∀ S, Pl.Pure P 56 [.str f.text] S (.bool (N f.text))) :
  WalksT 95 P F165 [enc f] (wantV (nameFB N f) (.str f.text)) := by
 intro H n b' c O hO hw
 obtain ⟨k, q, t, nl, l⟩ := f
 have hv : nameFB N (.mk k q t nl l) = (decide (k = 1) && N t) := rfl
 rw [hv]
 clear hv
 simp only [Fm.text, enc] at h56 ⊢
 have e1 := v_ieq hO k 1
 have ht := h133 true
 have hf := h133 false
 clear h133
 generalize decide (k = 1) = b1 at e1 ⊢
 generalize N t = b2 at h56 ⊢
 generalize encs l = xs
 cases b1
 ·(try cbv;repeat (simp only [w_same hO,e1];try cbv))
  refine Throws.go (hf _) ?_
  (try cbv;repeat (simp only [w_same hO];try cbv))
  (intro i k x hx;have hne:=WFS.ne hw i k x hx;first|exact hx|(simp (disch:=assumption) only [w_upd2_ne hO];exact hx))
 ·(try cbv;repeat (simp only [w_same hO,e1];try cbv))
  refine Pure.go (h56 _) ?_
  cases b2
  ·(try cbv;repeat (simp only [w_same hO];try cbv))
   refine Throws.go (hf _) ?_
   (try cbv;repeat (simp only [w_same hO];try cbv))
   (intro i k x hx;have hne:=WFS.ne hw i k x hx;first|exact hx|(simp (disch:=assumption) only [w_upd2_ne hO];exact hx))
  ·(try cbv;repeat (simp only [w_same hO];try cbv))
   refine Throws.go (ht _) ?_
   (try cbv;repeat (simp only [w_same hO];try cbv))
   (intro i k x hx;have hne:=WFS.ne hw i k x hx;first|exact hx|(simp (disch:=assumption) only [w_upd2_ne hO];exact hx))
theorem w211 (P : Program) (f : Fm) (h133 : ∀ b S, Throws 95 P 133 [.bool b] S (wantV b (.tup []))) : WalksT 95 P F211 [enc f] (wantV (kindB f) (.tup [])) := by
 intro H n b' c O hO hw
 obtain ⟨k, q, t, nl, l⟩ := f
 have hv : kindB (.mk k q t nl l) = (decide (k = 1) || decide (k = 3)) := rfl
 rw [hv]
 clear hv
 simp only [enc]
 have e1 := v_ieq hO k 1
 have e2 := v_ieq hO k 3
 have ht := h133 true
 have hf := h133 false
 clear h133
 generalize decide (k = 1) = b1 at e1 ⊢
 generalize decide (k = 3) = b2 at e2 ⊢
 generalize encs l = xs
 cases b1
 ·cases b2
  ·(try cbv;repeat (simp only [w_same hO,e1,e2];try cbv))
   refine Throws.go (hf _) ?_
   (try cbv;repeat (simp only [w_same hO];try cbv))
   (intro i k x hx;have hne:=WFS.ne hw i k x hx;first|exact hx|(simp (disch:=assumption) only [w_upd2_ne hO];exact hx))
  ·(try cbv;repeat (simp only [w_same hO,e1,e2];try cbv))
   refine Throws.go (ht _) ?_
   (try cbv;repeat (simp only [w_same hO];try cbv))
   (intro i k x hx;have hne:=WFS.ne hw i k x hx;first|exact hx|(simp (disch:=assumption) only [w_upd2_ne hO];exact hx))
 ·(try cbv;repeat (simp only [w_same hO,e1];try cbv))
  refine Throws.go (ht _) ?_
  (try cbv;repeat (simp only [w_same hO];try cbv))
  (intro i k x hx;have hne:=WFS.ne hw i k x hx;first|exact hx|(simp (disch:=assumption) only [w_upd2_ne hO];exact hx))
theorem w212 (P : Program) (f : Fm) (lo hi : Int) (h133 : ∀ b S, Throws 95 P 133 [.bool b] S (wantV b (.tup []))) : WalksT 95 P F212 [enc f, .int .i64 lo, .int .i64 hi] (wantV (digitB f lo hi) (.tup [])) := by
 intro H n b' c O hO hw
 obtain ⟨k, q, t, nl, l⟩ := f
 have hv : digitB (.mk k q t nl l) lo hi = (decide (k = 0) && decide (lo ≤ q) && decide (q ≤ hi)) := rfl
 rw [hv]
 clear hv
 simp only [enc]
 have e1 := v_ieq hO k 0
 have e2 := v_ile hO lo q
 have e3 := v_ile hO q hi
 have ht := h133 true
 have hf := h133 false
 clear h133
 generalize decide (k = 0) = b1 at e1 ⊢
 generalize decide (lo ≤ q) = b2 at e2 ⊢
 generalize decide (q ≤ hi) = b3 at e3 ⊢
 generalize encs l = xs
 cases b1
 ·(try cbv;repeat (simp only [w_same hO,e1];try cbv))
  refine Throws.go (hf _) ?_
  (try cbv;repeat (simp only [w_same hO];try cbv))
  (intro i k x hx;have hne:=WFS.ne hw i k x hx;first|exact hx|(simp (disch:=assumption) only [w_upd2_ne hO];exact hx))
 ·cases b2
  ·(try cbv;repeat (simp only [w_same hO,e1,e2];try cbv))
   refine Throws.go (hf _) ?_
   (try cbv;repeat (simp only [w_same hO];try cbv))
   (intro i k x hx;have hne:=WFS.ne hw i k x hx;first|exact hx|(simp (disch:=assumption) only [w_upd2_ne hO];exact hx))
  ·cases b3
   ·(try cbv;repeat (simp only [w_same hO,e1,e2,e3];try cbv))
    refine Throws.go (hf _) ?_
    (try cbv;repeat (simp only [w_same hO];try cbv))
    (intro i k x hx;have hne:=WFS.ne hw i k x hx;first|exact hx|(simp (disch:=assumption) only [w_upd2_ne hO];exact hx))
   ·(try cbv;repeat (simp only [w_same hO,e1,e2,e3];try cbv))
    refine Throws.go (ht _) ?_
    (try cbv;repeat (simp only [w_same hO];try cbv))
    (intro i k x hx;have hne:=WFS.ne hw i k x hx;first|exact hx|(simp (disch:=assumption) only [w_upd2_ne hO];exact hx))
def allX (E : Fm → Option Int) : List Fm → Option Int
 | [] => none
 | f :: r => match E f with
  | none => allX E r
  | some c => some c
end Go.Pl.Z
end
section
open Go Go.Pl Go.Proofs
namespace Go.Pl.Z
set_option maxRecDepth 100000
theorem v_cut {O : Ops} (hO : O = Ops.std) (l : List Fm) (i j : Int) (a b : Nat) (hi : i = a) (hj : j = b) (hab : a ≤ b) (hb : b ≤ l.length) : O.cut (encs l) i j = some (encs ((l.take b).drop a)) := by
 subst hO hi hj
 simp only [Ops.std]
 rw [if_pos ⟨by omega, by omega, by rw [encs_length]; omega⟩]
 simp [encs_take, encs_drop]
theorem v_cutE {O : Ops} (hO : O = Ops.std) (l : List Fm) (i j : Int) (a : Nat) (hi : i = a) (hj : j = l.length) (ha : a ≤ l.length) : O.cut (encs l) i j = some (encs (l.drop a)) := by
 have := v_cut hO l i j a l.length hi hj ha (Nat.le_refl _)
 rwa [List.take_of_length_le (Nat.le_refl _)] at this
theorem exactB_len {f : Fm} {m : Nat} (h : exactB f m = true) : f.kids.length = m := by
 have h2 := of_decide_eq_true ((Bool.and_eq_true _ _).mp h).2
 omega
end Go.Pl.Z
end

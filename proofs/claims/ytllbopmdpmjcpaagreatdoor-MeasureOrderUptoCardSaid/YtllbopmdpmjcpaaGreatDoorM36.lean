import Derived.Test.YtllbopmdpmjcpaaGreatDoorM30
set_option linter.unusedSimpArgs false
set_option linter.unusedVariables false
set_option linter.unusedSectionVars false
open Go Go.Pl Go.Proofs
namespace Go.Pl.L
set_option linter.all false
def L135 : LF := ⟨13,[],.seq (.reg [Lo 4 (.mv (.t 0)),Lo 5 (.len (.t 4)),Lo 6 (.mv (.k (.int .i64 0)))]) (.block 0 (.loop [4,5,6] (.seq (.reg [Lo 7 (.bin .lss (.t 6) (.t 5))]) (.seq (.cond (.t 7) .skip (.exit 0)) (.seq (.block 1 (.seq (.reg [Lo 8 (.ia 4 (.t 4) (.t 6)),Lo 9 (.ld 4 true (.t 8)),Lo 3 (.boxs 4 (.t 9))]) (.reg [Lo 10 (.ld 4 true (.t 3)),Lo 11 (.call 111 [.t 10])]))) (.reg [Lo 12 (.bin .add (.t 6) (.k (.int .i64 1))),Lo 6 (.mv (.t 12))]))))))⟩
theorem c135 : compFm Tryz.prog Tryz.f135 [1000000007] = some L135.er := by kernel_rfl
theorem g135 : isGo Tryz.prog 135 = true := by kernel_rfl
def s135 (P : Program) (a0 : V) (S : St) (K : AE → St → Prop) : Prop :=
 bnd (opV S (.len (.k a0.plain.plain.plain))) fun x1 =>
 loop3 (fun R2 w4 w5 w6 S1 =>
 bnd (opV S1 (.bin .lss (.k w6.plain) (.k w5.plain))) fun x7 =>
 brV x7.plain
 (bnd (opV S1 (.ia 4 (.k w4.plain) (.k w6.plain))) fun x8 =>
 bnd (opV S1 (.ld 4 true (.k x8.plain))) fun x9 =>
 effA S1 (.boxs 4 (.k x9.plain)) fun x10 S2 =>
 bnd (opV S2 (.ld 4 true (.k x10.plain))) fun x11 =>
 callA P 111 [x11.plain] S2 (fun x12 S3 =>
 bnd (opV S3 (.bin .add (.k w6.plain) (.k (.int .i64 1)))) fun x13 =>
 R2 w4 w5 x13.plain S3) (kp K))
 (K (.ret (.tup [])) S1))
 a0.plain.plain x1 ((.int .i64 0)) S
theorem e135 : (fun (P : Program) (a0 : V) (S : St) (K : AE → St → Prop) => lvc P L135.c (retL L135.rs K) (frame0 [a0]) S) = s135 := by kernel_rfl
theorem t135 (a0 : V) (r : AE) (h : ∀ S, s135 Tryz.prog a0 S fun e S' => e = r ∧ S' = S) : Thr Tryz.prog 135 [a0] r :=
 Thr_of_lvc (L := L135) hm Tryz.func135 g135 c135 (Nat.le_of_ble_eq_true rfl) fun S => by have := h S; rw [← e135] at this; exact this
def L166 : LF := ⟨12,[],.seq (.reg [Lo 1 (.boxr (.t 0))]) (.seq (.reg [Lo 3 (.ld 4 true (.t 1)),Lo 4 (.call 164 [.t 3,.k (.int .i64 3)]),Lo 2 (.asg (.t 4))]) (.seq (.reg [Lo 5 (.mv (.t 2)),Lo 6 (.ia 4 (.t 5) (.k (.int .i64 0))),Lo 7 (.ld 4 true (.t 6)),Lo 8 (.call 165 [.t 7])]) (.reg [Lo 9 (.mv (.t 2)),Lo 10 (.slc 4 (.t 9) (some (.k (.int .i64 1))) none none),Lo 11 (.call 135 [.t 10])])))⟩
theorem c166 : compFm Tryz.prog Tryz.f166 [1000000007] = some L166.er := by kernel_rfl
theorem g166 : isGo Tryz.prog 166 = true := by kernel_rfl
def s166 (P : Program) (a0 : V) (S : St) (K : AE → St → Prop) : Prop :=
 effA S (.boxr (.k a0.plain.plain)) fun x1 S1 =>
 bnd (opV S1 (.ld 4 true (.k x1.plain))) fun x2 =>
 callA P 164 [x2.plain, (.int .i64 3)] S1 (fun x3 S2 =>
 bnd (opV S2 (.ia 4 (.k x3.plain.plain) (.k (.int .i64 0)))) fun x4 =>
 bnd (opV S2 (.ld 4 true (.k x4.plain))) fun x5 =>
 callA P 165 [x5.plain] S2 (fun x6 S3 =>
 bnd (opV S3 (.slc 4 (.k x3.plain.plain) (some (.k (.int .i64 1))) none none)) fun x7 =>
 callA P 135 [x7.plain] S3 (fun x8 S4 =>
 K (.ret (.tup [])) S4) (kp K)) (kp K)) (kp K)
theorem e166 : (fun (P : Program) (a0 : V) (S : St) (K : AE → St → Prop) => lvc P L166.c (retL L166.rs K) (frame0 [a0]) S) = s166 := by kernel_rfl
theorem t166 (a0 : V) (r : AE) (h : ∀ S, s166 Tryz.prog a0 S fun e S' => e = r ∧ S' = S) : Thr Tryz.prog 166 [a0] r :=
 Thr_of_lvc (L := L166) hm Tryz.func166 g166 c166 (Nat.le_of_ble_eq_true rfl) fun S => by have := h S; rw [← e166] at this; exact this
def L136 : LF := ⟨178,[],.seq (.reg [Lo 4 (.boxr (.t 1))]) (.seq (.reg [Lo 13 (.mv (.t 0))]) (.block 0 (.seq (.reg [Lo 18 (.bin .eql (.t 13) (.k (.str [108,101,116]))),Lo 17 (.asg (.t 18))]) (.cond (.t 17) (.seq (.reg [Lo 19 (.mv (.t 2)),Lo 20 (.len (.t 19)),Lo 21 (.bin .eql (.t 20) (.k (.int .i64 2))),Lo 22 (.call 133 [.t 21])]) (.seq (.reg [Lo 23 (.mv (.t 2)),Lo 24 (.ia 4 (.t 23) (.k (.int .i64 0))),Lo 25 (.ld 4 true (.t 24)),Lo 26 (.call 164 [.t 25,.k (.int .i64 2)]),Lo 6 (.asg (.t 26))]) (.seq (.reg [Lo 27 (.mv (.t 6)),Lo 28 (.ia 4 (.t 27) (.k (.int .i64 0))),Lo 29 (.ld 4 true (.t 28)),Lo 30 (.call 165 [.t 29])]) (.seq (.reg [Lo 31 (.mv (.t 6)),Lo 32 (.ia 4 (.t 31) (.k (.int .i64 1))),Lo 33 (.ld 4 true (.t 32)),Lo 34 (.call 111 [.t 33])]) (.reg [Lo 35 (.mv (.t 2)),Lo 36 (.ia 4 (.t 35) (.k (.int .i64 1))),Lo 37 (.ld 4 true (.t 36)),Lo 38 (.call 111 [.t 37])]))))) (.seq (.reg [Lo 40 (.bin .eql (.t 13) (.k (.str [112,105,99,107]))),Lo 39 (.asg (.t 40))]) (.cond (.t 39) (.seq (.reg [Lo 41 (.mv (.t 2)),Lo 42 (.len (.t 41)),Lo 43 (.bin .eql (.t 42) (.k (.int .i64 3))),Lo 44 (.call 133 [.t 43])]) (.seq (.reg [Lo 45 (.mv (.t 2)),Lo 46 (.ia 4 (.t 45) (.k (.int .i64 0))),Lo 47 (.ld 4 true (.t 46)),Lo 48 (.call 166 [.t 47])]) (.reg [Lo 49 (.mv (.t 2)),Lo 50 (.slc 4 (.t 49) (some (.k (.int .i64 1))) none none),Lo 51 (.call 135 [.t 50])]))) (.seqj [0,2,13,52] (.seq (.reg [Lo 53 (.bin .eql (.t 13) (.k (.str [97,108,108]))),Lo 52 (.asg (.t 53))]) (.cond (.t 52) .skip (.reg [Lo 54 (.bin .eql (.t 13) (.k (.str [115,111,109,101]))),Lo 52 (.asg (.t 54))]))) (.cond (.t 52) (.seq (.reg [Lo 55 (.mv (.t 2)),Lo 56 (.len (.t 55)),Lo 57 (.bin .eql (.t 56) (.k (.int .i64 2))),Lo 58 (.call 133 [.t 57])]) (.seq (.reg [Lo 59 (.mv (.t 2)),Lo 60 (.ia 4 (.t 59) (.k (.int .i64 0))),Lo 61 (.ld 4 true (.t 60)),Lo 62 (.call 166 [.t 61])]) (.reg [Lo 63 (.mv (.t 2)),Lo 64 (.ia 4 (.t 63) (.k (.int .i64 1))),Lo 65 (.ld 4 true (.t 64)),Lo 66 (.call 111 [.t 65])]))) (.seqj [0,2,13,67] (.seq (.reg [Lo 68 (.bin .eql (.t 13) (.k (.str [101,118,101,114,121]))),Lo 67 (.asg (.t 68))]) (.cond (.t 67) .skip (.reg [Lo 69 (.bin .eql (.t 13) (.k (.str [97,110,121]))),Lo 67 (.asg (.t 69))]))) (.cond (.t 67) (.seq (.reg [Lo 70 (.mv (.t 2)),Lo 71 (.len (.t 70)),Lo 72 (.bin .eql (.t 71) (.k (.int .i64 2))),Lo 73 (.call 133 [.t 72])]) (.seq (.reg [Lo 74 (.mv (.t 2)),Lo 75 (.ia 4 (.t 74) (.k (.int .i64 0))),Lo 76 (.ld 4 true (.t 75)),Lo 77 (.call 164 [.t 76,.k (.int .i64 2)]),Lo 7 (.asg (.t 77))]) (.seq (.reg [Lo 78 (.mv (.t 7)),Lo 79 (.ia 4 (.t 78) (.k (.int .i64 0))),Lo 80 (.ld 4 true (.t 79)),Lo 81 (.call 165 [.t 80])]) (.seq (.reg [Lo 82 (.mv (.t 7)),Lo 83 (.ia 4 (.t 82) (.k (.int .i64 1))),Lo 84 (.ld 4 true (.t 83)),Lo 85 (.call 111 [.t 84])]) (.reg [Lo 86 (.mv (.t 2)),Lo 87 (.ia 4 (.t 86) (.k (.int .i64 1))),Lo 88 (.ld 4 true (.t 87)),Lo 89 (.call 111 [.t 88])]))))) (.seq (.reg [Lo 91 (.bin .eql (.t 13) (.k (.str [109,97,116,99,104]))),Lo 90 (.asg (.t 91))]) (.cond (.t 90) (.seq (.reg [Lo 92 (.mv (.t 2)),Lo 93 (.len (.t 92)),Lo 94 (.bin .geq (.t 93) (.k (.int .i64 2))),Lo 95 (.call 133 [.t 94])]) (.seq (.reg [Lo 96 (.mv (.t 2)),Lo 97 (.ia 4 (.t 96) (.k (.int .i64 0))),Lo 98 (.ld 4 true (.t 97)),Lo 99 (.call 111 [.t 98])]) (.seq (.reg [Lo 100 (.mv (.t 2)),Lo 101 (.slc 4 (.t 100) (some (.k (.int .i64 1))) none none),Lo 102 (.len (.t 101)),Lo 103 (.mv (.k (.int .i64 0)))]) (.block 1 (.loop [101,102,103] (.seq (.reg [Lo 104 (.bin .lss (.t 103) (.t 102))]) (.seq (.cond (.t 104) .skip (.exit 1)) (.seq (.block 2 (.seq (.reg [Lo 105 (.ia 4 (.t 101) (.t 103)),Lo 106 (.ld 4 true (.t 105)),Lo 9 (.boxs 4 (.t 106))]) (.seq (.reg [Lo 107 (.ld 4 true (.t 9)),Lo 108 (.call 164 [.t 107,.k (.int .i64 3)]),Lo 10 (.asg (.t 108))]) (.seq (.reg [Lo 109 (.mv (.t 10)),Lo 110 (.ia 4 (.t 109) (.k (.int .i64 0))),Lo 111 (.ld 4 true (.t 110)),Lo 112 (.call 165 [.t 111])]) (.seq (.reg [Lo 113 (.mv (.t 10)),Lo 114 (.ia 4 (.t 113) (.k (.int .i64 1))),Lo 115 (.ld 4 true (.t 114)),Lo 116 (.call 167 [.t 115,.k (.int .i64 0)]),Lo 11 (.asg (.t 116))]) (.seq (.reg [Lo 117 (.mv (.t 11)),Lo 118 (.call 168 [.t 117])]) (.reg [Lo 119 (.mv (.t 10)),Lo 120 (.ia 4 (.t 119) (.k (.int .i64 2))),Lo 121 (.ld 4 true (.t 120)),Lo 122 (.call 111 [.t 121])]))))))) (.reg [Lo 123 (.bin .add (.t 103) (.k (.int .i64 1))),Lo 103 (.mv (.t 123))]))))))))) (.seq (.reg [Lo 125 (.bin .eql (.t 13) (.k (.str [102,110]))),Lo 124 (.asg (.t 125))]) (.cond (.t 124) (.seq (.reg [Lo 126 (.mv (.t 2)),Lo 127 (.len (.t 126)),Lo 128 (.bin .eql (.t 127) (.k (.int .i64 2))),Lo 129 (.call 133 [.t 128])]) (.seq (.reg [Lo 130 (.mv (.t 2)),Lo 131 (.ia 4 (.t 130) (.k (.int .i64 0))),Lo 132 (.ld 4 true (.t 131)),Lo 133 (.call 169 [.t 132,.k (.int .i64 0)]),Lo 12 (.asg (.t 133))]) (.seq (.reg [Lo 134 (.mv (.t 12)),Lo 135 (.call 168 [.t 134])]) (.reg [Lo 136 (.mv (.t 2)),Lo 137 (.ia 4 (.t 136) (.k (.int .i64 1))),Lo 138 (.ld 4 true (.t 137)),Lo 139 (.call 111 [.t 138])])))) (.seq (.reg [Lo 141 (.bin .eql (.t 13) (.k (.str [97,112,112]))),Lo 140 (.asg (.t 141))]) (.cond (.t 140) (.seq (.reg [Lo 142 (.mv (.t 2)),Lo 143 (.len (.t 142)),Lo 144 (.bin .geq (.t 143) (.k (.int .i64 1))),Lo 145 (.call 133 [.t 144])]) (.reg [Lo 146 (.mv (.t 2)),Lo 147 (.call 135 [.t 146])])) (.seqj [0,2,13,148] (.seq (.reg [Lo 149 (.bin .eql (.t 13) (.k (.str [99,97,108,108]))),Lo 148 (.asg (.t 149))]) (.cond (.t 148) .skip (.reg [Lo 150 (.bin .eql (.t 13) (.k (.str [109,97,107,101]))),Lo 148 (.asg (.t 150))]))) (.cond (.t 148) (.seq (.reg [Lo 151 (.mv (.t 2)),Lo 152 (.len (.t 151)),Lo 153 (.bin .geq (.t 152) (.k (.int .i64 1))),Lo 154 (.call 133 [.t 153])]) (.seq (.reg [Lo 155 (.mv (.t 2)),Lo 156 (.ia 4 (.t 155) (.k (.int .i64 0))),Lo 157 (.ld 4 true (.t 156)),Lo 158 (.call 165 [.t 157])]) (.reg [Lo 159 (.mv (.t 2)),Lo 160 (.slc 4 (.t 159) (some (.k (.int .i64 1))) none none),Lo 161 (.call 170 [.t 160]),Lo 162 (.call 135 [.t 161])]))) (.seqj [0,2,163] (.seq (.reg [Lo 164 (.bin .eql (.t 13) (.k (.str [105,115]))),Lo 163 (.asg (.t 164))]) (.cond (.t 163) .skip (.reg [Lo 165 (.bin .eql (.t 13) (.k (.str [103,101,116]))),Lo 163 (.asg (.t 165))]))) (.cond (.t 163) (.seq (.reg [Lo 166 (.mv (.t 2)),Lo 167 (.len (.t 166)),Lo 168 (.bin .eql (.t 167) (.k (.int .i64 2))),Lo 169 (.call 133 [.t 168])]) (.seq (.reg [Lo 170 (.mv (.t 2)),Lo 171 (.ia 4 (.t 170) (.k (.int .i64 0))),Lo 172 (.ld 4 true (.t 171)),Lo 173 (.call 165 [.t 172])]) (.reg [Lo 174 (.mv (.t 2)),Lo 175 (.ia 4 (.t 174) (.k (.int .i64 1))),Lo 176 (.ld 4 true (.t 175)),Lo 177 (.call 111 [.t 176])]))) (.reg [Lo 14 (.mv (.t 0)),Lo 15 (.mv (.t 2)),Lo 16 (.call 171 [.t 14,.t 15])])))))))))))))))))))))⟩
theorem c136 : compFm Tryz.prog Tryz.f136 [1000000007] = some L136.er := by kernel_rfl
theorem g136 : isGo Tryz.prog 136 = true := by kernel_rfl
def s136 (P : Program) (a0 a1 a2 : V) (S : St) (K : AE → St → Prop) : Prop :=
 effA S (.boxr (.k a1.plain.plain)) fun x1 S1 =>
 bnd (opV S1 (.bin .eql (.k a0.plain.plain.plain) (.k (.str [108, 101, 116])))) fun x2 =>
 brV x2.plain
 (bnd (opV S1 (.len (.k a2.plain.plain.plain))) fun x3 =>
 bnd (opV S1 (.bin .eql (.k x3.plain) (.k (.int .i64 2)))) fun x4 =>
 callA P 133 [x4.plain] S1 (fun x5 S2 =>
 bnd (opV S2 (.ia 4 (.k a2.plain.plain.plain) (.k (.int .i64 0)))) fun x6 =>
 bnd (opV S2 (.ld 4 true (.k x6.plain))) fun x7 =>
 callA P 164 [x7.plain, (.int .i64 2)] S2 (fun x8 S3 =>
 bnd (opV S3 (.ia 4 (.k x8.plain.plain) (.k (.int .i64 0)))) fun x9 =>
 bnd (opV S3 (.ld 4 true (.k x9.plain))) fun x10 =>
 callA P 165 [x10.plain] S3 (fun x11 S4 =>
 bnd (opV S4 (.ia 4 (.k x8.plain.plain) (.k (.int .i64 1)))) fun x12 =>
 bnd (opV S4 (.ld 4 true (.k x12.plain))) fun x13 =>
 callA P 111 [x13.plain] S4 (fun x14 S5 =>
 bnd (opV S5 (.ia 4 (.k a2.plain.plain.plain) (.k (.int .i64 1)))) fun x15 =>
 bnd (opV S5 (.ld 4 true (.k x15.plain))) fun x16 =>
 callA P 111 [x16.plain] S5 (fun x17 S6 =>
 K (.ret (.tup [])) S6) (kp K)) (kp K)) (kp K)) (kp K)) (kp K))
 (bnd (opV S1 (.bin .eql (.k a0.plain.plain.plain) (.k (.str [112, 105, 99, 107])))) fun x18 =>
 brV x18.plain
 (bnd (opV S1 (.len (.k a2.plain.plain.plain))) fun x19 =>
 bnd (opV S1 (.bin .eql (.k x19.plain) (.k (.int .i64 3)))) fun x20 =>
 callA P 133 [x20.plain] S1 (fun x21 S7 =>
 bnd (opV S7 (.ia 4 (.k a2.plain.plain.plain) (.k (.int .i64 0)))) fun x22 =>
 bnd (opV S7 (.ld 4 true (.k x22.plain))) fun x23 =>
 callA P 166 [x23.plain] S7 (fun x24 S8 =>
 bnd (opV S8 (.slc 4 (.k a2.plain.plain.plain) (some (.k (.int .i64 1))) none none)) fun x25 =>
 callA P 135 [x25.plain] S8 (fun x26 S9 =>
 K (.ret (.tup [])) S9) (kp K)) (kp K)) (kp K))
 (gjn (fun j27 : V → V → V → V → St → Prop =>
 bnd (opV S1 (.bin .eql (.k a0.plain.plain.plain) (.k (.str [97, 108, 108])))) fun x142 =>
 brV x142.plain
 (j27 a0.plain a2.plain a0.plain.plain x142 S1)
 (bnd (opV S1 (.bin .eql (.k a0.plain.plain.plain) (.k (.str [115, 111, 109, 101])))) fun x143 =>
 j27 a0.plain a2.plain a0.plain.plain x143 S1))
 (fun z28 z29 z30 z31 S10 =>
 brV z31.plain
 (bnd (opV S10 (.len (.k z29.plain.plain))) fun x32 =>
 bnd (opV S10 (.bin .eql (.k x32.plain) (.k (.int .i64 2)))) fun x33 =>
 callA P 133 [x33.plain] S10 (fun x34 S11 =>
 bnd (opV S11 (.ia 4 (.k z29.plain.plain) (.k (.int .i64 0)))) fun x35 =>
 bnd (opV S11 (.ld 4 true (.k x35.plain))) fun x36 =>
 callA P 166 [x36.plain] S11 (fun x37 S12 =>
 bnd (opV S12 (.ia 4 (.k z29.plain.plain) (.k (.int .i64 1)))) fun x38 =>
 bnd (opV S12 (.ld 4 true (.k x38.plain))) fun x39 =>
 callA P 111 [x39.plain] S12 (fun x40 S13 =>
 K (.ret (.tup [])) S13) (kp K)) (kp K)) (kp K))
 (gjn (fun j41 : V → V → V → V → St → Prop =>
 bnd (opV S10 (.bin .eql (.k z30.plain) (.k (.str [101, 118, 101, 114, 121])))) fun x140 =>
 brV x140.plain
 (j41 z28 z29 z30 x140 S10)
 (bnd (opV S10 (.bin .eql (.k z30.plain) (.k (.str [97, 110, 121])))) fun x141 =>
 j41 z28 z29 z30 x141 S10))
 (fun z42 z43 z44 z45 S14 =>
 brV z45.plain
 (bnd (opV S14 (.len (.k z43.plain.plain))) fun x46 =>
 bnd (opV S14 (.bin .eql (.k x46.plain) (.k (.int .i64 2)))) fun x47 =>
 callA P 133 [x47.plain] S14 (fun x48 S15 =>
 bnd (opV S15 (.ia 4 (.k z43.plain.plain) (.k (.int .i64 0)))) fun x49 =>
 bnd (opV S15 (.ld 4 true (.k x49.plain))) fun x50 =>
 callA P 164 [x50.plain, (.int .i64 2)] S15 (fun x51 S16 =>
 bnd (opV S16 (.ia 4 (.k x51.plain.plain) (.k (.int .i64 0)))) fun x52 =>
 bnd (opV S16 (.ld 4 true (.k x52.plain))) fun x53 =>
 callA P 165 [x53.plain] S16 (fun x54 S17 =>
 bnd (opV S17 (.ia 4 (.k x51.plain.plain) (.k (.int .i64 1)))) fun x55 =>
 bnd (opV S17 (.ld 4 true (.k x55.plain))) fun x56 =>
 callA P 111 [x56.plain] S17 (fun x57 S18 =>
 bnd (opV S18 (.ia 4 (.k z43.plain.plain) (.k (.int .i64 1)))) fun x58 =>
 bnd (opV S18 (.ld 4 true (.k x58.plain))) fun x59 =>
 callA P 111 [x59.plain] S18 (fun x60 S19 =>
 K (.ret (.tup [])) S19) (kp K)) (kp K)) (kp K)) (kp K)) (kp K))
 (bnd (opV S14 (.bin .eql (.k z44.plain) (.k (.str [109, 97, 116, 99, 104])))) fun x61 =>
 brV x61.plain
 (bnd (opV S14 (.len (.k z43.plain.plain))) fun x62 =>
 bnd (opV S14 (.bin .geq (.k x62.plain) (.k (.int .i64 2)))) fun x63 =>
 callA P 133 [x63.plain] S14 (fun x64 S20 =>
 bnd (opV S20 (.ia 4 (.k z43.plain.plain) (.k (.int .i64 0)))) fun x65 =>
 bnd (opV S20 (.ld 4 true (.k x65.plain))) fun x66 =>
 callA P 111 [x66.plain] S20 (fun x67 S21 =>
 bnd (opV S21 (.slc 4 (.k z43.plain.plain) (some (.k (.int .i64 1))) none none)) fun x68 =>
 bnd (opV S21 (.len (.k x68.plain))) fun x69 =>
 loop3 (fun R70 w72 w73 w74 S22 =>
 bnd (opV S22 (.bin .lss (.k w74.plain) (.k w73.plain))) fun x75 =>
 brV x75.plain
 (bnd (opV S22 (.ia 4 (.k w72.plain) (.k w74.plain))) fun x76 =>
 bnd (opV S22 (.ld 4 true (.k x76.plain))) fun x77 =>
 effA S22 (.boxs 4 (.k x77.plain)) fun x78 S23 =>
 bnd (opV S23 (.ld 4 true (.k x78.plain))) fun x79 =>
 callA P 164 [x79.plain, (.int .i64 3)] S23 (fun x80 S24 =>
 bnd (opV S24 (.ia 4 (.k x80.plain.plain) (.k (.int .i64 0)))) fun x81 =>
 bnd (opV S24 (.ld 4 true (.k x81.plain))) fun x82 =>
 callA P 165 [x82.plain] S24 (fun x83 S25 =>
 bnd (opV S25 (.ia 4 (.k x80.plain.plain) (.k (.int .i64 1)))) fun x84 =>
 bnd (opV S25 (.ld 4 true (.k x84.plain))) fun x85 =>
 callA P 167 [x85.plain, (.int .i64 0)] S25 (fun x86 S26 =>
 callA P 168 [x86.plain.plain] S26 (fun x87 S27 =>
 bnd (opV S27 (.ia 4 (.k x80.plain.plain) (.k (.int .i64 2)))) fun x88 =>
 bnd (opV S27 (.ld 4 true (.k x88.plain))) fun x89 =>
 callA P 111 [x89.plain] S27 (fun x90 S28 =>
 bnd (opV S28 (.bin .add (.k w74.plain) (.k (.int .i64 1)))) fun x91 =>
 R70 w72 w73 x91.plain S28) (kp K)) (kp K)) (kp K)) (kp K)) (kp K))
 (K (.ret (.tup [])) S22))
 x68 x69 ((.int .i64 0)) S21) (kp K)) (kp K))
 (bnd (opV S14 (.bin .eql (.k z44.plain) (.k (.str [102, 110])))) fun x92 =>
 brV x92.plain
 (bnd (opV S14 (.len (.k z43.plain.plain))) fun x93 =>
 bnd (opV S14 (.bin .eql (.k x93.plain) (.k (.int .i64 2)))) fun x94 =>
 callA P 133 [x94.plain] S14 (fun x95 S29 =>
 bnd (opV S29 (.ia 4 (.k z43.plain.plain) (.k (.int .i64 0)))) fun x96 =>
 bnd (opV S29 (.ld 4 true (.k x96.plain))) fun x97 =>
 callA P 169 [x97.plain, (.int .i64 0)] S29 (fun x98 S30 =>
 callA P 168 [x98.plain.plain] S30 (fun x99 S31 =>
 bnd (opV S31 (.ia 4 (.k z43.plain.plain) (.k (.int .i64 1)))) fun x100 =>
 bnd (opV S31 (.ld 4 true (.k x100.plain))) fun x101 =>
 callA P 111 [x101.plain] S31 (fun x102 S32 =>
 K (.ret (.tup [])) S32) (kp K)) (kp K)) (kp K)) (kp K))
 (bnd (opV S14 (.bin .eql (.k z44.plain) (.k (.str [97, 112, 112])))) fun x103 =>
 brV x103.plain
 (bnd (opV S14 (.len (.k z43.plain.plain))) fun x104 =>
 bnd (opV S14 (.bin .geq (.k x104.plain) (.k (.int .i64 1)))) fun x105 =>
 callA P 133 [x105.plain] S14 (fun x106 S33 =>
 callA P 135 [z43.plain.plain] S33 (fun x107 S34 =>
 K (.ret (.tup [])) S34) (kp K)) (kp K))
 (gjn (fun j108 : V → V → V → V → St → Prop =>
 bnd (opV S14 (.bin .eql (.k z44.plain) (.k (.str [99, 97, 108, 108])))) fun x138 =>
 brV x138.plain
 (j108 z42 z43 z44 x138 S14)
 (bnd (opV S14 (.bin .eql (.k z44.plain) (.k (.str [109, 97, 107, 101])))) fun x139 =>
 j108 z42 z43 z44 x139 S14))
 (fun z109 z110 z111 z112 S35 =>
 brV z112.plain
 (bnd (opV S35 (.len (.k z110.plain.plain))) fun x113 =>
 bnd (opV S35 (.bin .geq (.k x113.plain) (.k (.int .i64 1)))) fun x114 =>
 callA P 133 [x114.plain] S35 (fun x115 S36 =>
 bnd (opV S36 (.ia 4 (.k z110.plain.plain) (.k (.int .i64 0)))) fun x116 =>
 bnd (opV S36 (.ld 4 true (.k x116.plain))) fun x117 =>
 callA P 165 [x117.plain] S36 (fun x118 S37 =>
 bnd (opV S37 (.slc 4 (.k z110.plain.plain) (some (.k (.int .i64 1))) none none)) fun x119 =>
 callA P 170 [x119.plain] S37 (fun x120 S38 =>
 callA P 135 [x120.plain] S38 (fun x121 S39 =>
 K (.ret (.tup [])) S39) (kp K)) (kp K)) (kp K)) (kp K))
 (gjn (fun j122 : V → V → V → St → Prop =>
 bnd (opV S35 (.bin .eql (.k z111.plain) (.k (.str [105, 115])))) fun x136 =>
 brV x136.plain
 (j122 z109 z110 x136 S35)
 (bnd (opV S35 (.bin .eql (.k z111.plain) (.k (.str [103, 101, 116])))) fun x137 =>
 j122 z109 z110 x137 S35))
 (fun z123 z124 z125 S40 =>
 brV z125.plain
 (bnd (opV S40 (.len (.k z124.plain.plain))) fun x126 =>
 bnd (opV S40 (.bin .eql (.k x126.plain) (.k (.int .i64 2)))) fun x127 =>
 callA P 133 [x127.plain] S40 (fun x128 S41 =>
 bnd (opV S41 (.ia 4 (.k z124.plain.plain) (.k (.int .i64 0)))) fun x129 =>
 bnd (opV S41 (.ld 4 true (.k x129.plain))) fun x130 =>
 callA P 165 [x130.plain] S41 (fun x131 S42 =>
 bnd (opV S42 (.ia 4 (.k z124.plain.plain) (.k (.int .i64 1)))) fun x132 =>
 bnd (opV S42 (.ld 4 true (.k x132.plain))) fun x133 =>
 callA P 111 [x133.plain] S42 (fun x134 S43 =>
 K (.ret (.tup [])) S43) (kp K)) (kp K)) (kp K))
 (callA P 171 [z123.plain.plain, z124.plain.plain] S40 (fun x135 S44 =>
 K (.ret (.tup [])) S44) (kp K))))))))))))))
theorem e136 : (fun (P : Program) (a0 a1 a2 : V) (S : St) (K : AE → St → Prop) => lvc P L136.c (retL L136.rs K) (frame0 [a0, a1, a2]) S) = s136 := by kernel_rfl
theorem t136 (a0 a1 a2 : V) (r : AE) (h : ∀ S, s136 Tryz.prog a0 a1 a2 S fun e S' => e = r ∧ S' = S) : Thr Tryz.prog 136 [a0, a1, a2] r :=
 Thr_of_lvc (L := L136) hm Tryz.func136 g136 c136 (Nat.le_of_ble_eq_true rfl) fun S => by have := h S; rw [← e136] at this; exact this
def L171 : LF := ⟨156,[],.seq (.reg [Lo 9 (.mv (.t 0))]) (.block 0 (.seq (.reg [Lo 12 (.bin .eql (.t 9) (.k (.str [98,105,116,115]))),Lo 11 (.asg (.t 12))]) (.cond (.t 11) (.seq (.reg [Lo 13 (.mv (.t 1)),Lo 14 (.len (.t 13)),Lo 15 (.bin .eql (.t 14) (.k (.int .i64 2))),Lo 16 (.call 133 [.t 15])]) (.seq (.reg [Lo 17 (.mv (.t 1)),Lo 18 (.ia 4 (.t 17) (.k (.int .i64 0))),Lo 19 (.ld 4 true (.t 18)),Lo 20 (.call 212 [.t 19,.k (.int .i64 1),.k (.int .i64 16)])]) (.reg [Lo 21 (.mv (.t 1)),Lo 22 (.ia 4 (.t 21) (.k (.int .i64 1))),Lo 23 (.ld 4 true (.t 22)),Lo 24 (.call 212 [.t 23,.k (.int .i64 0),.k (.int .i64 1152921504606846976)])]))) (.seq (.reg [Lo 26 (.bin .eql (.t 9) (.k (.str [109,97,112]))),Lo 25 (.asg (.t 26))]) (.cond (.t 25) (.seq (.reg [Lo 27 (.mv (.t 1)),Lo 28 (.len (.t 27)),Lo 29 (.mv (.k (.int .i64 0)))]) (.block 1 (.loop [27,28,29] (.seq (.reg [Lo 30 (.bin .lss (.t 29) (.t 28))]) (.seq (.cond (.t 30) .skip (.exit 1)) (.seq (.block 2 (.seq (.reg [Lo 31 (.ia 4 (.t 27) (.t 29)),Lo 32 (.ld 4 true (.t 31)),Lo 5 (.boxs 4 (.t 32))]) (.reg [Lo 33 (.ld 4 true (.t 5)),Lo 34 (.call 164 [.t 33,.k (.int .i64 2)]),Lo 35 (.call 135 [.t 34])]))) (.reg [Lo 36 (.bin .add (.t 29) (.k (.int .i64 1))),Lo 29 (.mv (.t 36))]))))))) (.seq (.reg [Lo 38 (.bin .eql (.t 9) (.k (.str [101,109,112,116,121]))),Lo 37 (.asg (.t 38))]) (.cond (.t 37) (.seq (.reg [Lo 39 (.mv (.t 1)),Lo 40 (.len (.t 39)),Lo 41 (.bin .eql (.t 40) (.k (.int .i64 1))),Lo 42 (.call 133 [.t 41])]) (.reg [Lo 43 (.mv (.t 1)),Lo 44 (.ia 4 (.t 43) (.k (.int .i64 0))),Lo 45 (.ld 4 true (.t 44)),Lo 46 (.call 211 [.t 45])])) (.seq (.reg [Lo 48 (.bin .eql (.t 9) (.k (.str [105,109,97,112]))),Lo 47 (.asg (.t 48))]) (.cond (.t 47) (.seq (.reg [Lo 49 (.mv (.t 1)),Lo 50 (.len (.t 49)),Lo 51 (.bin .eql (.t 50) (.k (.int .i64 2))),Lo 52 (.call 133 [.t 51])]) (.seq (.reg [Lo 53 (.mv (.t 1)),Lo 54 (.ia 4 (.t 53) (.k (.int .i64 0))),Lo 55 (.ld 4 true (.t 54)),Lo 56 (.call 111 [.t 55])]) (.reg [Lo 57 (.mv (.t 1)),Lo 58 (.ia 4 (.t 57) (.k (.int .i64 1))),Lo 59 (.ld 4 true (.t 58)),Lo 60 (.call 211 [.t 59])]))) (.seqj [1,9,61] (.seq (.reg [Lo 62 (.bin .eql (.t 9) (.k (.str [102,111,114,97,108,108]))),Lo 61 (.asg (.t 62))]) (.cond (.t 61) .skip (.reg [Lo 63 (.bin .eql (.t 9) (.k (.str [101,120,105,115,116,115]))),Lo 61 (.asg (.t 63))]))) (.cond (.t 61) (.seq (.reg [Lo 64 (.mv (.t 1)),Lo 65 (.len (.t 64)),Lo 66 (.bin .geq (.t 65) (.k (.int .i64 2))),Lo 67 (.call 133 [.t 66])]) (.seq (.reg [Lo 68 (.mv (.t 1)),Lo 69 (.ia 4 (.t 68) (.k (.int .i64 0))),Lo 70 (.ld 4 true (.t 69)),Lo 71 (.call 169 [.t 70,.k (.int .i64 1)]),Lo 6 (.asg (.t 71))]) (.seq (.reg [Lo 72 (.mv (.t 6)),Lo 73 (.call 168 [.t 72])]) (.seqj [1] (.seq (.reg [Lo 74 (.mv (.t 1)),Lo 75 (.mv (.t 1)),Lo 76 (.len (.t 75)),Lo 77 (.bin .sub (.t 76) (.k (.int .i64 1))),Lo 78 (.slc 4 (.t 74) (some (.k (.int .i64 1))) (some (.t 77)) none),Lo 79 (.len (.t 78)),Lo 80 (.mv (.k (.int .i64 0)))]) (.block 3 (.loop [1,78,79,80] (.seq (.reg [Lo 81 (.bin .lss (.t 80) (.t 79))]) (.seq (.cond (.t 81) .skip (.exit 3)) (.seq (.block 4 (.seq (.reg [Lo 82 (.ia 4 (.t 78) (.t 80)),Lo 83 (.ld 4 true (.t 82)),Lo 8 (.boxs 4 (.t 83))]) (.seq (.reg [Lo 84 (.ld 4 true (.t 8)),Lo 85 (.call 28 [.t 84]),Lo 86 (.bin .eql (.t 85) (.k (.str [116,114,105,103,103,101,114]))),Lo 87 (.call 133 [.t 86])]) (.reg [Lo 88 (.ld 4 true (.t 8)),Lo 89 (.call 206 [.t 88,.k (.int .i64 2)]),Lo 90 (.slc 4 (.t 89) (some (.k (.int .i64 1))) none none),Lo 91 (.call 135 [.t 90])])))) (.reg [Lo 92 (.bin .add (.t 80) (.k (.int .i64 1))),Lo 80 (.mv (.t 92))]))))))) (.reg [Lo 93 (.mv (.t 1)),Lo 94 (.mv (.t 1)),Lo 95 (.len (.t 94)),Lo 96 (.bin .sub (.t 95) (.k (.int .i64 1))),Lo 97 (.ia 4 (.t 93) (.t 96)),Lo 98 (.ld 4 true (.t 97)),Lo 99 (.call 111 [.t 98])]))))) (.seq (.reg [Lo 101 (.bin .eql (.t 9) (.k (.str [111,108,100]))),Lo 100 (.asg (.t 101))]) (.cond (.t 100) (.seq (.reg [Lo 102 (.mv (.t 1)),Lo 103 (.len (.t 102)),Lo 104 (.bin .eql (.t 103) (.k (.int .i64 1))),Lo 105 (.mv (.t 104)),.grj 105 false [106,107,108] [Ro 106 (.mv (.t 1)),Ro 107 (.len (.t 106)),Ro 108 (.bin .eql (.t 107) (.k (.int .i64 2)))],Lo 109 (.pick (.t 105) (.k (.bool true)) (.t 108)),Lo 110 (.call 133 [.t 109])]) (.seqj [1] (.seq (.reg [Lo 111 (.mv (.t 1)),Lo 112 (.len (.t 111)),Lo 113 (.bin .eql (.t 112) (.k (.int .i64 2)))]) (.cond (.t 113) (.reg [Lo 114 (.mv (.t 1)),Lo 115 (.ia 4 (.t 114) (.k (.int .i64 0))),Lo 116 (.ld 4 true (.t 115)),Lo 117 (.call 165 [.t 116])]) .skip)) (.reg [Lo 118 (.mv (.t 1)),Lo 119 (.mv (.t 1)),Lo 120 (.len (.t 119)),Lo 121 (.bin .sub (.t 120) (.k (.int .i64 1))),Lo 122 (.ia 4 (.t 118) (.t 121)),Lo 123 (.ld 4 true (.t 122)),Lo 124 (.call 111 [.t 123])]))) (.seq (.reg [Lo 126 (.bin .eql (.t 9) (.k (.str [102,117,101,108]))),Lo 125 (.asg (.t 126))]) (.cond (.t 125) (.seq (.reg [Lo 127 (.mv (.t 1)),Lo 128 (.len (.t 127)),Lo 129 (.bin .eql (.t 128) (.k (.int .i64 3))),Lo 130 (.call 133 [.t 129])]) (.seq (.reg [Lo 131 (.mv (.t 1)),Lo 132 (.ia 4 (.t 131) (.k (.int .i64 0))),Lo 133 (.ld 4 true (.t 132)),Lo 134 (.call 212 [.t 133,.k (.int .i64 0),.k (.int .i64 9)])]) (.seq (.reg [Lo 135 (.mv (.t 1)),Lo 136 (.ia 4 (.t 135) (.k (.int .i64 1))),Lo 137 (.ld 4 true (.t 136)),Lo 138 (.call 165 [.t 137])]) (.reg [Lo 139 (.mv (.t 1)),Lo 140 (.ia 4 (.t 139) (.k (.int .i64 2))),Lo 141 (.ld 4 true (.t 140)),Lo 142 (.call 111 [.t 141])])))) (.seq (.reg [Lo 144 (.bin .eql (.t 9) (.k (.str [112,114,101,102,105,120]))),Lo 143 (.asg (.t 144))]) (.cond (.t 143) (.seq (.reg [Lo 145 (.mv (.t 1)),Lo 146 (.len (.t 145)),Lo 147 (.bin .geq (.t 146) (.k (.int .i64 2))),Lo 148 (.call 133 [.t 147])]) (.seq (.reg [Lo 149 (.mv (.t 1)),Lo 150 (.ia 4 (.t 149) (.k (.int .i64 0))),Lo 151 (.ld 4 true (.t 150)),Lo 152 (.call 165 [.t 151])]) (.reg [Lo 153 (.mv (.t 1)),Lo 154 (.slc 4 (.t 153) (some (.k (.int .i64 1))) none none),Lo 155 (.call 135 [.t 154])]))) (.reg [Lo 10 (.call 133 [.k (.bool false)])]))))))))))))))))))⟩
theorem c171 : compFm Tryz.prog Tryz.f171 [1000000007] = some L171.er := by kernel_rfl
theorem g171 : isGo Tryz.prog 171 = true := by kernel_rfl
def s171 (P : Program) (a0 a1 : V) (S : St) (K : AE → St → Prop) : Prop :=
 bnd (opV S (.bin .eql (.k a0.plain.plain.plain) (.k (.str [98, 105, 116, 115])))) fun x1 =>
 brV x1.plain
 (bnd (opV S (.len (.k a1.plain.plain.plain))) fun x2 =>
 bnd (opV S (.bin .eql (.k x2.plain) (.k (.int .i64 2)))) fun x3 =>
 callA P 133 [x3.plain] S (fun x4 S1 =>
 bnd (opV S1 (.ia 4 (.k a1.plain.plain.plain) (.k (.int .i64 0)))) fun x5 =>
 bnd (opV S1 (.ld 4 true (.k x5.plain))) fun x6 =>
 callA P 212 [x6.plain, (.int .i64 1), (.int .i64 16)] S1 (fun x7 S2 =>
 bnd (opV S2 (.ia 4 (.k a1.plain.plain.plain) (.k (.int .i64 1)))) fun x8 =>
 bnd (opV S2 (.ld 4 true (.k x8.plain))) fun x9 =>
 callA P 212 [x9.plain, (.int .i64 0), (.int .i64 1152921504606846976)] S2 (fun x10 S3 =>
 K (.ret (.tup [])) S3) (kp K)) (kp K)) (kp K))
 (bnd (opV S (.bin .eql (.k a0.plain.plain.plain) (.k (.str [109, 97, 112])))) fun x11 =>
 brV x11.plain
 (bnd (opV S (.len (.k a1.plain.plain.plain))) fun x12 =>
 loop3 (fun R13 w15 w16 w17 S4 =>
 bnd (opV S4 (.bin .lss (.k w17.plain) (.k w16.plain))) fun x18 =>
 brV x18.plain
 (bnd (opV S4 (.ia 4 (.k w15.plain) (.k w17.plain))) fun x19 =>
 bnd (opV S4 (.ld 4 true (.k x19.plain))) fun x20 =>
 effA S4 (.boxs 4 (.k x20.plain)) fun x21 S5 =>
 bnd (opV S5 (.ld 4 true (.k x21.plain))) fun x22 =>
 callA P 164 [x22.plain, (.int .i64 2)] S5 (fun x23 S6 =>
 callA P 135 [x23.plain] S6 (fun x24 S7 =>
 bnd (opV S7 (.bin .add (.k w17.plain) (.k (.int .i64 1)))) fun x25 =>
 R13 w15 w16 x25.plain S7) (kp K)) (kp K))
 (K (.ret (.tup [])) S4))
 a1.plain.plain x12 ((.int .i64 0)) S)
 (bnd (opV S (.bin .eql (.k a0.plain.plain.plain) (.k (.str [101, 109, 112, 116, 121])))) fun x26 =>
 brV x26.plain
 (bnd (opV S (.len (.k a1.plain.plain.plain))) fun x27 =>
 bnd (opV S (.bin .eql (.k x27.plain) (.k (.int .i64 1)))) fun x28 =>
 callA P 133 [x28.plain] S (fun x29 S8 =>
 bnd (opV S8 (.ia 4 (.k a1.plain.plain.plain) (.k (.int .i64 0)))) fun x30 =>
 bnd (opV S8 (.ld 4 true (.k x30.plain))) fun x31 =>
 callA P 211 [x31.plain] S8 (fun x32 S9 =>
 K (.ret (.tup [])) S9) (kp K)) (kp K))
 (bnd (opV S (.bin .eql (.k a0.plain.plain.plain) (.k (.str [105, 109, 97, 112])))) fun x33 =>
 brV x33.plain
 (bnd (opV S (.len (.k a1.plain.plain.plain))) fun x34 =>
 bnd (opV S (.bin .eql (.k x34.plain) (.k (.int .i64 2)))) fun x35 =>
 callA P 133 [x35.plain] S (fun x36 S10 =>
 bnd (opV S10 (.ia 4 (.k a1.plain.plain.plain) (.k (.int .i64 0)))) fun x37 =>
 bnd (opV S10 (.ld 4 true (.k x37.plain))) fun x38 =>
 callA P 111 [x38.plain] S10 (fun x39 S11 =>
 bnd (opV S11 (.ia 4 (.k a1.plain.plain.plain) (.k (.int .i64 1)))) fun x40 =>
 bnd (opV S11 (.ld 4 true (.k x40.plain))) fun x41 =>
 callA P 211 [x41.plain] S11 (fun x42 S12 =>
 K (.ret (.tup [])) S12) (kp K)) (kp K)) (kp K))
 (gjn (fun j43 : V → V → V → St → Prop =>
 bnd (opV S (.bin .eql (.k a0.plain.plain.plain) (.k (.str [102, 111, 114, 97, 108, 108])))) fun x133 =>
 brV x133.plain
 (j43 a1.plain a0.plain.plain x133 S)
 (bnd (opV S (.bin .eql (.k a0.plain.plain.plain) (.k (.str [101, 120, 105, 115, 116, 115])))) fun x134 =>
 j43 a1.plain a0.plain.plain x134 S))
 (fun z44 z45 z46 S13 =>
 brV z46.plain
 (bnd (opV S13 (.len (.k z44.plain.plain))) fun x47 =>
 bnd (opV S13 (.bin .geq (.k x47.plain) (.k (.int .i64 2)))) fun x48 =>
 callA P 133 [x48.plain] S13 (fun x49 S14 =>
 bnd (opV S14 (.ia 4 (.k z44.plain.plain) (.k (.int .i64 0)))) fun x50 =>
 bnd (opV S14 (.ld 4 true (.k x50.plain))) fun x51 =>
 callA P 169 [x51.plain, (.int .i64 1)] S14 (fun x52 S15 =>
 callA P 168 [x52.plain.plain] S15 (fun x53 S16 =>
 gjn (fun j54 : V → St → Prop =>
 bnd (opV S16 (.len (.k z44.plain.plain))) fun x61 =>
 bnd (opV S16 (.bin .sub (.k x61.plain) (.k (.int .i64 1)))) fun x62 =>
 bnd (opV S16 (.slc 4 (.k z44.plain.plain) (some (.k (.int .i64 1))) (some (.k x62.plain)) none)) fun x63 =>
 bnd (opV S16 (.len (.k x63.plain))) fun x64 =>
 loop4 (fun R65 w67 w68 w69 w70 S19 =>
 bnd (opV S19 (.bin .lss (.k w70.plain) (.k w69.plain))) fun x71 =>
 brV x71.plain
 (bnd (opV S19 (.ia 4 (.k w68.plain) (.k w70.plain))) fun x72 =>
 bnd (opV S19 (.ld 4 true (.k x72.plain))) fun x73 =>
 effA S19 (.boxs 4 (.k x73.plain)) fun x74 S20 =>
 bnd (opV S20 (.ld 4 true (.k x74.plain))) fun x75 =>
 callA P 28 [x75.plain] S20 (fun x76 S21 =>
 bnd (opV S21 (.bin .eql (.k x76.plain) (.k (.str [116, 114, 105, 103, 103, 101, 114])))) fun x77 =>
 callA P 133 [x77.plain] S21 (fun x78 S22 =>
 bnd (opV S22 (.ld 4 true (.k x74.plain))) fun x79 =>
 callA P 206 [x79.plain, (.int .i64 2)] S22 (fun x80 S23 =>
 bnd (opV S23 (.slc 4 (.k x80.plain) (some (.k (.int .i64 1))) none none)) fun x81 =>
 callA P 135 [x81.plain] S23 (fun x82 S24 =>
 bnd (opV S24 (.bin .add (.k w70.plain) (.k (.int .i64 1)))) fun x83 =>
 R65 w67 w68 w69 x83.plain S24) (kp K)) (kp K)) (kp K)) (kp K))
 (j54 w67 S19))
 z44 x63 x64 ((.int .i64 0)) S16)
 (fun z55 S17 =>
 bnd (opV S17 (.len (.k z55.plain.plain))) fun x56 =>
 bnd (opV S17 (.bin .sub (.k x56.plain) (.k (.int .i64 1)))) fun x57 =>
 bnd (opV S17 (.ia 4 (.k z55.plain.plain) (.k x57.plain))) fun x58 =>
 bnd (opV S17 (.ld 4 true (.k x58.plain))) fun x59 =>
 callA P 111 [x59.plain] S17 (fun x60 S18 =>
 K (.ret (.tup [])) S18) (kp K))) (kp K)) (kp K)) (kp K))
 (bnd (opV S13 (.bin .eql (.k z45.plain) (.k (.str [111, 108, 100])))) fun x84 =>
 brV x84.plain
 (bnd (opV S13 (.len (.k z44.plain.plain))) fun x85 =>
 bnd (opV S13 (.bin .eql (.k x85.plain) (.k (.int .i64 1)))) fun x86 =>
 gjn (fun j90 : V → V → V → St → Prop =>
 gdV x86.plain false
 (bnd (opV S13 (.len (.k z44.plain.plain))) fun x108 =>
 bnd (opV S13 (.bin .eql (.k x108.plain) (.k (.int .i64 2)))) fun x109 =>
 j90 z44.plain x108 x109 S13)
 (j90 V.undef V.undef V.undef S13))
 (fun y91 y92 y93 S26 =>
 bnd (opV S26 (.pick (.k x86.plain.plain) (.k (.bool true)) (.k y93.plain))) fun x94 =>
 callA P 133 [x94.plain] S26 (fun x95 S27 =>
 gjn (fun j96 : V → St → Prop =>
 bnd (opV S27 (.len (.k z44.plain.plain))) fun x103 =>
 bnd (opV S27 (.bin .eql (.k x103.plain) (.k (.int .i64 2)))) fun x104 =>
 brV x104.plain
 (bnd (opV S27 (.ia 4 (.k z44.plain.plain) (.k (.int .i64 0)))) fun x105 =>
 bnd (opV S27 (.ld 4 true (.k x105.plain))) fun x106 =>
 callA P 165 [x106.plain] S27 (fun x107 S30 =>
 j96 z44 S30) (kp K))
 (j96 z44 S27))
 (fun z97 S28 =>
 bnd (opV S28 (.len (.k z97.plain.plain))) fun x98 =>
 bnd (opV S28 (.bin .sub (.k x98.plain) (.k (.int .i64 1)))) fun x99 =>
 bnd (opV S28 (.ia 4 (.k z97.plain.plain) (.k x99.plain))) fun x100 =>
 bnd (opV S28 (.ld 4 true (.k x100.plain))) fun x101 =>
 callA P 111 [x101.plain] S28 (fun x102 S29 =>
 K (.ret (.tup [])) S29) (kp K))) (kp K)))
 (bnd (opV S13 (.bin .eql (.k z45.plain) (.k (.str [102, 117, 101, 108])))) fun x110 =>
 brV x110.plain
 (bnd (opV S13 (.len (.k z44.plain.plain))) fun x111 =>
 bnd (opV S13 (.bin .eql (.k x111.plain) (.k (.int .i64 3)))) fun x112 =>
 callA P 133 [x112.plain] S13 (fun x113 S31 =>
 bnd (opV S31 (.ia 4 (.k z44.plain.plain) (.k (.int .i64 0)))) fun x114 =>
 bnd (opV S31 (.ld 4 true (.k x114.plain))) fun x115 =>
 callA P 212 [x115.plain, (.int .i64 0), (.int .i64 9)] S31 (fun x116 S32 =>
 bnd (opV S32 (.ia 4 (.k z44.plain.plain) (.k (.int .i64 1)))) fun x117 =>
 bnd (opV S32 (.ld 4 true (.k x117.plain))) fun x118 =>
 callA P 165 [x118.plain] S32 (fun x119 S33 =>
 bnd (opV S33 (.ia 4 (.k z44.plain.plain) (.k (.int .i64 2)))) fun x120 =>
 bnd (opV S33 (.ld 4 true (.k x120.plain))) fun x121 =>
 callA P 111 [x121.plain] S33 (fun x122 S34 =>
 K (.ret (.tup [])) S34) (kp K)) (kp K)) (kp K)) (kp K))
 (bnd (opV S13 (.bin .eql (.k z45.plain) (.k (.str [112, 114, 101, 102, 105, 120])))) fun x123 =>
 brV x123.plain
 (bnd (opV S13 (.len (.k z44.plain.plain))) fun x124 =>
 bnd (opV S13 (.bin .geq (.k x124.plain) (.k (.int .i64 2)))) fun x125 =>
 callA P 133 [x125.plain] S13 (fun x126 S35 =>
 bnd (opV S35 (.ia 4 (.k z44.plain.plain) (.k (.int .i64 0)))) fun x127 =>
 bnd (opV S35 (.ld 4 true (.k x127.plain))) fun x128 =>
 callA P 165 [x128.plain] S35 (fun x129 S36 =>
 bnd (opV S36 (.slc 4 (.k z44.plain.plain) (some (.k (.int .i64 1))) none none)) fun x130 =>
 callA P 135 [x130.plain] S36 (fun x131 S37 =>
 K (.ret (.tup [])) S37) (kp K)) (kp K)) (kp K))
 (callA P 133 [(.bool false)] S13 (fun x132 S38 =>
 K (.ret (.tup [])) S38) (kp K))))))))))
theorem e171 : (fun (P : Program) (a0 a1 : V) (S : St) (K : AE → St → Prop) => lvc P L171.c (retL L171.rs K) (frame0 [a0, a1]) S) = s171 := by kernel_rfl
theorem t171 (a0 a1 : V) (r : AE) (h : ∀ S, s171 Tryz.prog a0 a1 S fun e S' => e = r ∧ S' = S) : Thr Tryz.prog 171 [a0, a1] r :=
 Thr_of_lvc (L := L171) hm Tryz.func171 g171 c171 (Nat.le_of_ble_eq_true rfl) fun S => by have := h S; rw [← e171] at this; exact this
def L111 : LF := ⟨81,[],.seq (.reg [Lo 1 (.boxr (.t 0))]) (.seq (.seq (.reg [Lo 6 (.fa 0 1 false (.t 1)),Lo 7 (.ld 1 false (.t 6))]) (.block 0 (.seq (.reg [Lo 9 (.bin .eql (.t 7) (.k (.int .i64 0))),Lo 8 (.asg (.t 9))]) (.cond (.t 8) .ret (.seq (.reg [Lo 11 (.bin .eql (.t 7) (.k (.int .i64 1))),Lo 10 (.asg (.t 11))]) (.cond (.t 10) (.seq (.reg [Lo 12 (.fa 2 1 false (.t 1)),Lo 13 (.ld 1 false (.t 12)),Lo 14 (.bin .eql (.t 13) (.k (.str [116,114,117,101]))),Lo 15 (.mv (.t 14)),.grj 15 false [16,17,18] [Ro 16 (.fa 2 1 false (.t 1)),Ro 17 (.ld 1 false (.t 16)),Ro 18 (.bin .eql (.t 17) (.k (.str [102,97,108,115,101])))],Lo 19 (.pick (.t 15) (.k (.bool true)) (.t 18)),Lo 20 (.mv (.t 19)),.grj 20 false [21,22,23] [Ro 21 (.fa 2 1 false (.t 1)),Ro 22 (.ld 1 false (.t 21)),Ro 23 (.bin .eql (.t 22) (.k (.str [110,117,108,108])))],Lo 24 (.pick (.t 20) (.k (.bool true)) (.t 23)),Lo 25 (.mv (.t 24)),.grj 25 false [26,27,28] [Ro 26 (.fa 2 1 false (.t 1)),Ro 27 (.ld 1 false (.t 26)),Ro 28 (.bin .eql (.t 27) (.k (.str [116,104,105,115])))],Lo 29 (.pick (.t 25) (.k (.bool true)) (.t 28)),Lo 30 (.mv (.t 29)),.grj 30 false [31,32,33] [Ro 31 (.fa 2 1 false (.t 1)),Ro 32 (.ld 1 false (.t 31)),Ro 33 (.bin .eql (.t 32) (.k (.str [114,101,115,117,108,116])))],Lo 34 (.pick (.t 30) (.k (.bool true)) (.t 33)),Lo 2 (.asg (.t 34))]) (.seq (.reg [Lo 35 (.mv (.t 2)),Lo 36 (.mv (.t 35)),.grj 36 false [37,38,39,40] [Ro 37 (.fa 2 1 false (.t 1)),Ro 38 (.ld 1 false (.t 37)),Ro 39 (.call 86 [.t 38]),Ro 40 (.un .not (.t 39))],Lo 41 (.pick (.t 36) (.k (.bool true)) (.t 40)),Lo 42 (.call 133 [.t 41])]) .ret)) .skip)))))) (.seq (.reg [Lo 43 (.ld 4 true (.t 1)),Lo 44 (.call 28 [.t 43]),Lo 3 (.asg (.t 44))]) (.seq (.reg [Lo 45 (.fa 0 1 false (.t 1)),Lo 46 (.ld 1 false (.t 45)),Lo 47 (.bin .eql (.t 46) (.k (.int .i64 3))),Lo 48 (.mv (.t 47)),.grj 48 true [49,50] [Ro 49 (.mv (.t 3)),Ro 50 (.bin .neq (.t 49) (.k (.str [])))],Lo 51 (.pick (.t 48) (.t 50) (.k (.bool false))),Lo 52 (.call 133 [.t 51])]) (.seq (.seq (.reg [Lo 54 (.call 134 []),Lo 55 (.mv (.t 3)),Lo 56 (.mlk true true (.int .i64 0) (.t 54) (.t 55)),Lo 53 (.mv (.t 56)),Lo 57 (.ext (.t 53) 0),Lo 58 (.ext (.t 53) 1),Lo 4 (.asg (.t 57)),Lo 5 (.asg (.t 58))]) (.seq (.reg [Lo 59 (.mv (.t 5))]) (.cond (.t 59) (.seq (.reg [Lo 60 (.mv (.t 4)),Lo 61 (.bin .lss (.t 60) (.k (.int .i64 0))),Lo 62 (.mv (.t 61)),.grj 62 false [63,64,65,66,67,68] [Ro 63 (.fa 3 1 false (.t 1)),Ro 64 (.ld 1 false (.t 63)),Ro 65 (.len (.t 64)),Ro 66 (.mv (.t 4)),Ro 67 (.bin .add (.t 66) (.k (.int .i64 1))),Ro 68 (.bin .eql (.t 65) (.t 67))],Lo 69 (.pick (.t 62) (.k (.bool true)) (.t 68)),Lo 70 (.call 133 [.t 69])]) (.seq (.reg [Lo 71 (.fa 3 1 false (.t 1)),Lo 72 (.ld 1 false (.t 71)),Lo 73 (.slc 4 (.t 72) (some (.k (.int .i64 1))) none none),Lo 74 (.call 135 [.t 73])]) .ret)) .skip))) (.draw [Lo 75 (.mv (.t 3)),Lo 76 (.ld 4 true (.t 1)),Lo 77 (.fa 3 1 false (.t 1)),Lo 78 (.ld 1 false (.t 77)),Lo 79 (.slc 4 (.t 78) (some (.k (.int .i64 1))) none none)] [Lo 80 (.call 136 [.t 75,.t 76,.t 79])])))))⟩
theorem c111 : compFm Tryz.prog Tryz.f111 [1000000007] = some L111.er := by kernel_rfl
theorem g111 : isGo Tryz.prog 111 = true := by kernel_rfl
def s111 (P : Program) (a0 : V) (S : St) (K : AE → St → Prop) : Prop :=
 effA S (.boxr (.k a0.plain.plain)) fun x1 S1 =>
 bnd (opV S1 (.fa 0 1 false (.k x1.plain))) fun x2 =>
 bnd (opV S1 (.ld 1 false (.k x2.plain))) fun x3 =>
 bnd (opV S1 (.bin .eql (.k x3.plain) (.k (.int .i64 0)))) fun x4 =>
 brV x4.plain
 (K (.ret (.tup [])) S1)
 (bnd (opV S1 (.bin .eql (.k x3.plain) (.k (.int .i64 1)))) fun x5 =>
 brV x5.plain
 (bnd (opV S1 (.fa 2 1 false (.k x1.plain))) fun x6 =>
 bnd (opV S1 (.ld 1 false (.k x6.plain))) fun x7 =>
 bnd (opV S1 (.bin .eql (.k x7.plain) (.k (.str [116, 114, 117, 101])))) fun x8 =>
 gjn (fun j12 : V → V → V → St → Prop =>
 gdV x8.plain false
 (bnd (opV S1 (.fa 2 1 false (.k x1.plain))) fun x65 =>
 bnd (opV S1 (.ld 1 false (.k x65.plain))) fun x66 =>
 bnd (opV S1 (.bin .eql (.k x66.plain) (.k (.str [102, 97, 108, 115, 101])))) fun x67 =>
 j12 x65 x66 x67 S1)
 (j12 V.undef V.undef V.undef S1))
 (fun y13 y14 y15 S3 =>
 bnd (opV S3 (.pick (.k x8.plain.plain) (.k (.bool true)) (.k y15.plain))) fun x16 =>
 gjn (fun j20 : V → V → V → St → Prop =>
 gdV x16.plain false
 (bnd (opV S3 (.fa 2 1 false (.k x1.plain))) fun x62 =>
 bnd (opV S3 (.ld 1 false (.k x62.plain))) fun x63 =>
 bnd (opV S3 (.bin .eql (.k x63.plain) (.k (.str [110, 117, 108, 108])))) fun x64 =>
 j20 x62 x63 x64 S3)
 (j20 V.undef V.undef V.undef S3))
 (fun y21 y22 y23 S5 =>
 bnd (opV S5 (.pick (.k x16.plain.plain) (.k (.bool true)) (.k y23.plain))) fun x24 =>
 gjn (fun j28 : V → V → V → St → Prop =>
 gdV x24.plain false
 (bnd (opV S5 (.fa 2 1 false (.k x1.plain))) fun x59 =>
 bnd (opV S5 (.ld 1 false (.k x59.plain))) fun x60 =>
 bnd (opV S5 (.bin .eql (.k x60.plain) (.k (.str [116, 104, 105, 115])))) fun x61 =>
 j28 x59 x60 x61 S5)
 (j28 V.undef V.undef V.undef S5))
 (fun y29 y30 y31 S7 =>
 bnd (opV S7 (.pick (.k x24.plain.plain) (.k (.bool true)) (.k y31.plain))) fun x32 =>
 gjn (fun j36 : V → V → V → St → Prop =>
 gdV x32.plain false
 (bnd (opV S7 (.fa 2 1 false (.k x1.plain))) fun x56 =>
 bnd (opV S7 (.ld 1 false (.k x56.plain))) fun x57 =>
 bnd (opV S7 (.bin .eql (.k x57.plain) (.k (.str [114, 101, 115, 117, 108, 116])))) fun x58 =>
 j36 x56 x57 x58 S7)
 (j36 V.undef V.undef V.undef S7))
 (fun y37 y38 y39 S9 =>
 bnd (opV S9 (.pick (.k x32.plain.plain) (.k (.bool true)) (.k y39.plain))) fun x40 =>
 gjn (fun j45 : V → V → V → V → St → Prop =>
 gdV x40.plain.plain false
 (bnd (opV S9 (.fa 2 1 false (.k x1.plain))) fun x52 =>
 bnd (opV S9 (.ld 1 false (.k x52.plain))) fun x53 =>
 callA P 86 [x53.plain] S9 (fun x54 S13 =>
 bnd (opV S13 (.un .not (.k x54.plain))) fun x55 =>
 j45 x52 x53 x54 x55 S13) (kp K))
 (j45 V.undef V.undef V.undef V.undef S9))
 (fun y46 y47 y48 y49 S11 =>
 bnd (opV S11 (.pick (.k x40.plain.plain.plain) (.k (.bool true)) (.k y49.plain))) fun x50 =>
 callA P 133 [x50.plain] S11 (fun x51 S12 =>
 K (.ret (.tup [])) S12) (kp K)))))))
 (bnd (opV S1 (.ld 4 true (.k x1.plain))) fun x68 =>
 callA P 28 [x68.plain] S1 (fun x69 S14 =>
 bnd (opV S14 (.fa 0 1 false (.k x1.plain))) fun x70 =>
 bnd (opV S14 (.ld 1 false (.k x70.plain))) fun x71 =>
 bnd (opV S14 (.bin .eql (.k x71.plain) (.k (.int .i64 3)))) fun x72 =>
 gjn (fun j75 : V → V → St → Prop =>
 gdV x72.plain true
 (bnd (opV S14 (.bin .neq (.k x69.plain.plain) (.k (.str [])))) fun x114 =>
 j75 x69.plain x114 S14)
 (j75 V.undef V.undef S14))
 (fun y76 y77 S16 =>
 bnd (opV S16 (.pick (.k x72.plain.plain) (.k y77.plain) (.k (.bool false)))) fun x78 =>
 callA P 133 [x78.plain] S16 (fun x79 S17 =>
 callA P 134 [] S17 (fun x80 S18 =>
 bnd (opV S18 (.mlk true true (.int .i64 0) (.k x80.plain) (.k x69.plain.plain))) fun x81 =>
 bnd (opV S18 (.ext (.k x81.plain.plain) 0)) fun x82 =>
 bnd (opV S18 (.ext (.k x81.plain.plain) 1)) fun x83 =>
 brV x83.plain.plain
 (bnd (opV S18 (.bin .lss (.k x82.plain.plain) (.k (.int .i64 0)))) fun x84 =>
 gjn (fun j91 : V → V → V → V → V → V → St → Prop =>
 gdV x84.plain false
 (bnd (opV S18 (.fa 3 1 false (.k x1.plain))) fun x104 =>
 bnd (opV S18 (.ld 1 false (.k x104.plain))) fun x105 =>
 bnd (opV S18 (.len (.k x105.plain))) fun x106 =>
 bnd (opV S18 (.bin .add (.k x82.plain.plain) (.k (.int .i64 1)))) fun x107 =>
 bnd (opV S18 (.bin .eql (.k x106.plain) (.k x107.plain))) fun x108 =>
 j91 x104 x105 x106 x82.plain x107 x108 S18)
 (j91 V.undef V.undef V.undef V.undef V.undef V.undef S18))
 (fun y92 y93 y94 y95 y96 y97 S20 =>
 bnd (opV S20 (.pick (.k x84.plain.plain) (.k (.bool true)) (.k y97.plain))) fun x98 =>
 callA P 133 [x98.plain] S20 (fun x99 S21 =>
 bnd (opV S21 (.fa 3 1 false (.k x1.plain))) fun x100 =>
 bnd (opV S21 (.ld 1 false (.k x100.plain))) fun x101 =>
 bnd (opV S21 (.slc 4 (.k x101.plain) (some (.k (.int .i64 1))) none none)) fun x102 =>
 callA P 135 [x102.plain] S21 (fun x103 S22 =>
 K (.ret (.tup [])) S22) (kp K)) (kp K)))
 (bnd (opV S18 (.ld 4 true (.k x1.plain))) fun x109 =>
 bnd (opV S18 (.fa 3 1 false (.k x1.plain))) fun x110 =>
 bnd (opV S18 (.ld 1 false (.k x110.plain))) fun x111 =>
 bnd (opV S18 (.slc 4 (.k x111.plain) (some (.k (.int .i64 1))) none none)) fun x112 =>
 callA P 136 [x69.plain.plain, x109.plain, x112.plain] S18 (fun x113 S23 =>
 K (.ret (.tup [])) S23) (kp K))) (kp K)) (kp K))) (kp K)))
theorem e111 : (fun (P : Program) (a0 : V) (S : St) (K : AE → St → Prop) => lvc P L111.c (retL L111.rs K) (frame0 [a0]) S) = s111 := by kernel_rfl
def L134 : LF := ⟨27,[.tmp 0],.seq (.reg [Lo 0 (.asg (.k .nilmap))]) (.seq (.reg [Lo 6 (.mmk),.op ⟨none,.mup true (.t 6) (.k (.str [110,101,103])) (.k (.int .i64 1)),none⟩,.op ⟨none,.mup true (.t 6) (.k (.str [110,111,116])) (.k (.int .i64 1)),none⟩,.op ⟨none,.mup true (.t 6) (.k (.str [105,102])) (.k (.int .i64 3)),none⟩,.op ⟨none,.mup true (.t 6) (.k (.str [98,110,117,109])) (.k (.int .i64 1)),none⟩,.op ⟨none,.mup true (.t 6) (.k (.str [108,101,110])) (.k (.int .i64 1)),none⟩,.op ⟨none,.mup true (.t 6) (.k (.str [99,97,114,100])) (.k (.int .i64 1)),none⟩,.op ⟨none,.mup true (.t 6) (.k (.str [107,101,121,115])) (.k (.int .i64 1)),none⟩,.op ⟨none,.mup true (.t 6) (.k (.str [99,117,116])) (.k (.int .i64 3)),none⟩,.op ⟨none,.mup true (.t 6) (.k (.str [112,117,116])) (.k (.int .i64 3)),none⟩,.op ⟨none,.mup true (.t 6) (.k (.str [102,114,101,115,104])) (.k (.int .i64 1)),none⟩,Lo 7 (.mv (.t 6)),Lo 1 (.asg (.t 7))]) (.seqj [1] (.seq (.reg [Lo 8 (.call 107 [.k (.str [43,32,45,32,42,32,100,105,118,32,109,111,100,32,60,32,60,61,32,61,32,61,62,32,105,102,102,32,98,97,110,100,32,98,111,114,32,98,120,111,114,32,98,97,100,100,32,97,116,32,99,97,116,32,105,110,32,106,111,105,110,32,109,101,101,116,32,108,101,115,115,32,99,111,117,110,116,32,108,111,111,107])]),Lo 9 (.len (.t 8)),Lo 10 (.mv (.k (.int .i64 0)))]) (.block 0 (.loop [1,8,9,10] (.seq (.reg [Lo 11 (.bin .lss (.t 10) (.t 9))]) (.seq (.cond (.t 11) .skip (.exit 0)) (.seq (.block 1 (.seq (.reg [Lo 12 (.ia 1 (.t 8) (.t 10)),Lo 13 (.ld 1 false (.t 12)),Lo 3 (.asg (.t 13))]) (.reg [Lo 14 (.mv (.t 1)),Lo 15 (.mv (.t 3)),.op ⟨none,.mup true (.t 14) (.t 15) (.k (.int .i64 2)),none⟩]))) (.reg [Lo 16 (.bin .add (.t 10) (.k (.int .i64 1))),Lo 10 (.mv (.t 16))]))))))) (.seqj [1] (.seq (.reg [Lo 17 (.call 107 [.k (.str [97,110,100,32,111,114,32,115,101,113,32,115,101,116,32,98,97,103])]),Lo 18 (.len (.t 17)),Lo 19 (.mv (.k (.int .i64 0)))]) (.block 2 (.loop [1,17,18,19] (.seq (.reg [Lo 20 (.bin .lss (.t 19) (.t 18))]) (.seq (.cond (.t 20) .skip (.exit 2)) (.seq (.block 3 (.seq (.reg [Lo 21 (.ia 1 (.t 17) (.t 19)),Lo 22 (.ld 1 false (.t 21)),Lo 5 (.asg (.t 22))]) (.reg [Lo 23 (.mv (.t 1)),Lo 24 (.mv (.t 5)),.op ⟨none,.mup true (.t 23) (.t 24) (.k (.int .i64 (-1))),none⟩]))) (.reg [Lo 25 (.bin .add (.t 19) (.k (.int .i64 1))),Lo 19 (.mv (.t 25))]))))))) (.seq (.reg [Lo 26 (.asg (.t 1)),Lo 0 (.asg (.t 26))]) .ret))))⟩
theorem c134 : compFm Tryz.prog Tryz.f134 [1000000007] = some L134.er := by kernel_rfl
theorem g134 : isGo Tryz.prog 134 = true := by kernel_rfl
def s134 (P : Program) (S : St) (K : AE → St → Prop) : Prop :=
 effA S .mmk fun x1 S1 =>
 effA S1 (.mup true (.k x1.plain) (.k (.str [110, 101, 103])) (.k (.int .i64 1))) fun x2 S2 =>
 effA S2 (.mup true (.k x1.plain) (.k (.str [110, 111, 116])) (.k (.int .i64 1))) fun x3 S3 =>
 effA S3 (.mup true (.k x1.plain) (.k (.str [105, 102])) (.k (.int .i64 3))) fun x4 S4 =>
 effA S4 (.mup true (.k x1.plain) (.k (.str [98, 110, 117, 109])) (.k (.int .i64 1))) fun x5 S5 =>
 effA S5 (.mup true (.k x1.plain) (.k (.str [108, 101, 110])) (.k (.int .i64 1))) fun x6 S6 =>
 effA S6 (.mup true (.k x1.plain) (.k (.str [99, 97, 114, 100])) (.k (.int .i64 1))) fun x7 S7 =>
 effA S7 (.mup true (.k x1.plain) (.k (.str [107, 101, 121, 115])) (.k (.int .i64 1))) fun x8 S8 =>
 effA S8 (.mup true (.k x1.plain) (.k (.str [99, 117, 116])) (.k (.int .i64 3))) fun x9 S9 =>
 effA S9 (.mup true (.k x1.plain) (.k (.str [112, 117, 116])) (.k (.int .i64 3))) fun x10 S10 =>
 effA S10 (.mup true (.k x1.plain) (.k (.str [102, 114, 101, 115, 104])) (.k (.int .i64 1))) fun x11 S11 =>
 gjn (fun j12 : V → St → Prop =>
 callA P 107 [(.str [43, 32, 45, 32, 42, 32, 100, 105, 118, 32, 109, 111, 100, 32, 60, 32, 60, 61, 32, 61, 32, 61, 62, 32, 105, 102, 102, 32, 98, 97, 110, 100, 32, 98, 111, 114, 32, 98, 120, 111, 114, 32, 98, 97, 100, 100, 32, 97, 116, 32, 99, 97, 116, 32, 105, 110, 32, 106, 111, 105, 110, 32, 109, 101, 101, 116, 32, 108, 101, 115, 115, 32, 99, 111, 117, 110, 116, 32, 108, 111, 111, 107])] S11 (fun x29 S17 =>
 bnd (opV S17 (.len (.k x29.plain))) fun x30 =>
 loop4 (fun R31 w33 w34 w35 w36 S18 =>
 bnd (opV S18 (.bin .lss (.k w36.plain) (.k w35.plain))) fun x37 =>
 brV x37.plain
 (bnd (opV S18 (.ia 1 (.k w34.plain) (.k w36.plain))) fun x38 =>
 bnd (opV S18 (.ld 1 false (.k x38.plain))) fun x39 =>
 effA S18 (.mup true (.k w33.plain.plain) (.k x39.plain.plain) (.k (.int .i64 2))) fun x40 S19 =>
 bnd (opV S19 (.bin .add (.k w36.plain) (.k (.int .i64 1)))) fun x41 =>
 R31 w33 w34 w35 x41.plain S19)
 (j12 w33 S18))
 x1.plain x29 x30 ((.int .i64 0)) S17) (kp K))
 (fun z13 S12 =>
 gjn (fun j14 : V → St → Prop =>
 callA P 107 [(.str [97, 110, 100, 32, 111, 114, 32, 115, 101, 113, 32, 115, 101, 116, 32, 98, 97, 103])] S12 (fun x16 S14 =>
 bnd (opV S14 (.len (.k x16.plain))) fun x17 =>
 loop4 (fun R18 w20 w21 w22 w23 S15 =>
 bnd (opV S15 (.bin .lss (.k w23.plain) (.k w22.plain))) fun x24 =>
 brV x24.plain
 (bnd (opV S15 (.ia 1 (.k w21.plain) (.k w23.plain))) fun x25 =>
 bnd (opV S15 (.ld 1 false (.k x25.plain))) fun x26 =>
 effA S15 (.mup true (.k w20.plain.plain) (.k x26.plain.plain) (.k (.int .i64 (-1)))) fun x27 S16 =>
 bnd (opV S16 (.bin .add (.k w23.plain) (.k (.int .i64 1)))) fun x28 =>
 R18 w20 w21 w22 x28.plain S16)
 (j14 w20 S15))
 z13 x16 x17 ((.int .i64 0)) S14) (kp K))
 (fun z15 S13 =>
 K (.ret z15) S13))
theorem e134 : (fun (P : Program) (S : St) (K : AE → St → Prop) => lvc P L134.c (retL L134.rs K) (frame0 []) S) = s134 := by kernel_rfl
theorem u134 (S : St) (Q : AE → St → Prop) (h : WFS S → s134 Tryz.prog  S.enter (ovr S Q)) : ACalls Tryz.prog 134 [] S Q :=
 ACalls_of_lvc (L := L134) hm Tryz.func134 g134 c134 (Nat.le_of_ble_eq_true rfl) fun hw => by have := h hw; rw [← e134] at this; exact this
end Go.Pl.L

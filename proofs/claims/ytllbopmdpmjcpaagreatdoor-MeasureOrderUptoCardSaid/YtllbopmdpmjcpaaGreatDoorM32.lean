import Derived.Test.YtllbopmdpmjcpaaGreatDoorM30
set_option linter.unusedSimpArgs false
set_option linter.unusedVariables false
set_option linter.unusedSectionVars false
open Go Go.Pl Go.Proofs
namespace Go.Pl.L
set_option linter.all false
def L257 : LF := ⟨38,[],.seq (.reg [Lo 10 (.asg (.k (.int .i64 0)))]) (.block 0 (.loop [0,1,2,3,10] (.seq (.seq (.reg [Lo 11 (.mv (.t 10)),Lo 12 (.mv (.t 3)),Lo 13 (.bin .lss (.t 11) (.t 12))]) (.cond (.t 13) .skip (.exit 0))) (.seq (.block 1 (.draw [Lo 16 (.mv (.t 0)),Lo 17 (.mv (.t 1)),Lo 18 (.mv (.t 10)),Lo 19 (.bin .add (.t 17) (.t 18)),Lo 20 (.mv (.t 0)),Lo 21 (.mv (.t 2)),Lo 22 (.mv (.t 10)),Lo 23 (.bin .add (.t 21) (.t 22)),Lo 24 (.mv (.t 0)),Lo 25 (.mv (.t 2)),Lo 26 (.mv (.t 10)),Lo 27 (.bin .add (.t 25) (.t 26)),Lo 28 (.ia 4 (.t 24) (.t 27)),Lo 29 (.ld 4 true (.t 28)),Lo 30 (.mv (.t 0)),Lo 31 (.mv (.t 1)),Lo 32 (.mv (.t 10)),Lo 33 (.bin .add (.t 31) (.t 32)),Lo 34 (.ia 4 (.t 30) (.t 33)),Lo 35 (.ld 4 true (.t 34)),Lo 36 (.ia 4 (.t 16) (.t 19))] [.op ⟨none,.st 4 (.t 36) (.t 29),none⟩,Lo 37 (.ia 4 (.t 20) (.t 23)),.op ⟨none,.st 4 (.t 37) (.t 35),none⟩])) (.reg [Lo 14 (.mv (.t 10)),Lo 15 (.bin .add (.t 14) (.k (.int .i64 1))),Lo 10 (.asg (.t 15))])))))⟩
theorem c257 : compFm Tryz.prog Tryz.f257 [1000000007] = some L257.er := by kernel_rfl
theorem g257 : isGo Tryz.prog 257 = true := by kernel_rfl
def s257 (P : Program) (a0 a1 a2 a3 a4 : V) (S : St) (K : AE → St → Prop) : Prop :=
 loop5 (fun R1 w3 w4 w5 w6 w7 S1 =>
 bnd (opV S1 (.bin .lss (.k w7.plain.plain) (.k w6.plain.plain))) fun x8 =>
 brV x8.plain
 (bnd (opV S1 (.bin .add (.k w4.plain.plain) (.k w7.plain.plain))) fun x9 =>
 bnd (opV S1 (.bin .add (.k w5.plain.plain) (.k w7.plain.plain))) fun x10 =>
 bnd (opV S1 (.bin .add (.k w5.plain.plain) (.k w7.plain.plain))) fun x11 =>
 bnd (opV S1 (.ia 4 (.k w3.plain.plain) (.k x11.plain))) fun x12 =>
 bnd (opV S1 (.ld 4 true (.k x12.plain))) fun x13 =>
 bnd (opV S1 (.bin .add (.k w4.plain.plain) (.k w7.plain.plain))) fun x14 =>
 bnd (opV S1 (.ia 4 (.k w3.plain.plain) (.k x14.plain))) fun x15 =>
 bnd (opV S1 (.ld 4 true (.k x15.plain))) fun x16 =>
 bnd (opV S1 (.ia 4 (.k w3.plain.plain) (.k x9.plain))) fun x17 =>
 effA S1 (.st 4 (.k x17.plain) (.k x13.plain)) fun x18 S2 =>
 bnd (opV S2 (.ia 4 (.k w3.plain.plain) (.k x10.plain))) fun x19 =>
 effA S2 (.st 4 (.k x19.plain) (.k x16.plain)) fun x20 S3 =>
 bnd (opV S3 (.bin .add (.k w7.plain.plain) (.k (.int .i64 1)))) fun x21 =>
 R1 w3 w4 w5 w6 x21 S3)
 (K (.ret (.tup [])) S1))
 a0.plain a1.plain a2.plain a3.plain ((.int .i64 0)) S
theorem e257 : (fun (P : Program) (a0 a1 a2 a3 a4 : V) (S : St) (K : AE → St → Prop) => lvc P L257.c (retL L257.rs K) (frame0 [a0, a1, a2, a3, a4]) S) = s257 := by kernel_rfl
theorem u257 (a0 a1 a2 a3 a4 : V) (S : St) (Q : AE → St → Prop) (h : WFS S → s257 Tryz.prog a0 a1 a2 a3 a4 S.enter (ovr S Q)) : ACalls Tryz.prog 257 [a0, a1, a2, a3, a4] S Q :=
 ACalls_of_lvc (L := L257) hm Tryz.func257 g257 c257 (Nat.le_of_ble_eq_true rfl) fun hw => by have := h hw; rw [← e257] at this; exact this
def L251 : LF := ⟨58,[],.seq (.reg [Lo 12 (.mv (.t 2)),Lo 13 (.mv (.t 1)),Lo 14 (.bin .sub (.t 12) (.t 13)),Lo 10 (.asg (.t 14))]) (.seq (.reg [Lo 15 (.mv (.t 3)),Lo 16 (.mv (.t 2)),Lo 17 (.bin .sub (.t 15) (.t 16)),Lo 11 (.asg (.t 17))]) (.seqj [0,2,4,10] (.block 0 (.loop [0,2,4,10,11] (.seq (.seq (.reg [Lo 18 (.mv (.t 10)),Lo 19 (.mv (.t 11)),Lo 20 (.bin .neq (.t 18) (.t 19))]) (.cond (.t 20) .skip (.exit 0))) (.block 1 (.seq (.reg [Lo 21 (.mv (.t 10)),Lo 22 (.mv (.t 11)),Lo 23 (.bin .gtr (.t 21) (.t 22))]) (.cond (.t 23) (.seq (.reg [Lo 24 (.mv (.t 0)),Lo 25 (.mv (.t 2)),Lo 26 (.mv (.t 10)),Lo 27 (.bin .sub (.t 25) (.t 26)),Lo 28 (.mv (.t 2)),Lo 29 (.mv (.t 11)),Lo 30 (.mv (.t 4)),Lo 31 (.call 257 [.t 24,.t 27,.t 28,.t 29,.t 30])]) (.reg [Lo 32 (.mv (.t 10)),Lo 33 (.mv (.t 11)),Lo 34 (.bin .sub (.t 32) (.t 33)),Lo 10 (.asg (.t 34))])) (.seq (.reg [Lo 35 (.mv (.t 0)),Lo 36 (.mv (.t 2)),Lo 37 (.mv (.t 10)),Lo 38 (.bin .sub (.t 36) (.t 37)),Lo 39 (.mv (.t 2)),Lo 40 (.mv (.t 11)),Lo 41 (.bin .add (.t 39) (.t 40)),Lo 42 (.mv (.t 10)),Lo 43 (.bin .sub (.t 41) (.t 42)),Lo 44 (.mv (.t 10)),Lo 45 (.mv (.t 4)),Lo 46 (.call 257 [.t 35,.t 38,.t 43,.t 44,.t 45])]) (.reg [Lo 47 (.mv (.t 11)),Lo 48 (.mv (.t 10)),Lo 49 (.bin .sub (.t 47) (.t 48)),Lo 11 (.asg (.t 49))])))))))) (.reg [Lo 50 (.mv (.t 0)),Lo 51 (.mv (.t 2)),Lo 52 (.mv (.t 10)),Lo 53 (.bin .sub (.t 51) (.t 52)),Lo 54 (.mv (.t 2)),Lo 55 (.mv (.t 10)),Lo 56 (.mv (.t 4)),Lo 57 (.call 257 [.t 50,.t 53,.t 54,.t 55,.t 56])])))⟩
theorem c251 : compFm Tryz.prog Tryz.f251 [1000000007] = some L251.er := by kernel_rfl
theorem g251 : isGo Tryz.prog 251 = true := by kernel_rfl
def s251 (P : Program) (a0 a1 a2 a3 a4 : V) (S : St) (K : AE → St → Prop) : Prop :=
 bnd (opV S (.bin .sub (.k a2.plain.plain.plain) (.k a1.plain.plain.plain))) fun x1 =>
 bnd (opV S (.bin .sub (.k a3.plain.plain.plain) (.k a2.plain.plain.plain))) fun x2 =>
 gjn (fun j3 : V → V → V → V → St → Prop =>
 loop5 (fun R10 w12 w13 w14 w15 w16 S3 =>
 bnd (opV S3 (.bin .neq (.k w15.plain.plain) (.k w16.plain.plain))) fun x17 =>
 brV x17.plain
 (bnd (opV S3 (.bin .gtr (.k w15.plain.plain) (.k w16.plain.plain))) fun x18 =>
 brV x18.plain
 (bnd (opV S3 (.bin .sub (.k w13.plain.plain) (.k w15.plain.plain))) fun x19 =>
 callA P 257 [w12.plain.plain, x19.plain, w13.plain.plain, w16.plain.plain, w14.plain.plain] S3 (fun x20 S4 =>
 bnd (opV S4 (.bin .sub (.k w15.plain.plain) (.k w16.plain.plain))) fun x21 =>
 R10 w12 w13 w14 x21 w16 S4) (kp K))
 (bnd (opV S3 (.bin .sub (.k w13.plain.plain) (.k w15.plain.plain))) fun x22 =>
 bnd (opV S3 (.bin .add (.k w13.plain.plain) (.k w16.plain.plain))) fun x23 =>
 bnd (opV S3 (.bin .sub (.k x23.plain) (.k w15.plain.plain))) fun x24 =>
 callA P 257 [w12.plain.plain, x22.plain, x24.plain, w15.plain.plain, w14.plain.plain] S3 (fun x25 S5 =>
 bnd (opV S5 (.bin .sub (.k w16.plain.plain) (.k w15.plain.plain))) fun x26 =>
 R10 w12 w13 w14 w15 x26 S5) (kp K)))
 (j3 w12 w13 w14 w15 S3))
 a0.plain a2.plain a4.plain x1 x2 S)
 (fun z4 z5 z6 z7 S1 =>
 bnd (opV S1 (.bin .sub (.k z5.plain.plain) (.k z7.plain.plain))) fun x8 =>
 callA P 257 [z4.plain.plain, x8.plain, z5.plain.plain, z7.plain.plain, z6.plain.plain] S1 (fun x9 S2 =>
 K (.ret (.tup [])) S2) (kp K))
theorem e251 : (fun (P : Program) (a0 a1 a2 a3 a4 : V) (S : St) (K : AE → St → Prop) => lvc P L251.c (retL L251.rs K) (frame0 [a0, a1, a2, a3, a4]) S) = s251 := by kernel_rfl
theorem u251 (a0 a1 a2 a3 a4 : V) (S : St) (Q : AE → St → Prop) (h : WFS S → s251 Tryz.prog a0 a1 a2 a3 a4 S.enter (ovr S Q)) : ACalls Tryz.prog 251 [a0, a1, a2, a3, a4] S Q :=
 ACalls_of_lvc (L := L251) hm Tryz.func251 g251 c251 (Nat.le_of_ble_eq_true rfl) fun hw => by have := h hw; rw [← e251] at this; exact this
def L237 : LF := ⟨53,[],.seq (.reg [Lo 10 (.mv (.t 1)),Lo 11 (.bin .add (.t 10) (.k (.int .i64 1))),Lo 8 (.asg (.t 11))]) (.block 0 (.loop [0,1,2,3,8] (.seq (.seq (.reg [Lo 12 (.mv (.t 8)),Lo 13 (.mv (.t 2)),Lo 14 (.bin .lss (.t 12) (.t 13))]) (.cond (.t 14) .skip (.exit 0))) (.seqj [0,1,2,3,8] (.block 1 (.seq (.reg [Lo 17 (.mv (.t 8)),Lo 9 (.asg (.t 17))]) (.block 2 (.loop [0,1,2,3,8,9] (.seq (.seq (.draw [Lo 18 (.mv (.t 9)),Lo 19 (.mv (.t 1)),Lo 20 (.bin .gtr (.t 18) (.t 19)),Lo 21 (.mv (.t 20)),.grj 21 true [22,23,24,25,26,27,28,29,30,31] [Ro 22 (.mv (.t 3)),Ro 23 (.mv (.t 0)),Ro 24 (.mv (.t 9)),Ro 25 (.ia 4 (.t 23) (.t 24)),Ro 26 (.ld 4 true (.t 25)),Ro 27 (.mv (.t 0)),Ro 28 (.mv (.t 9)),Ro 29 (.bin .sub (.t 28) (.k (.int .i64 1))),Ro 30 (.ia 4 (.t 27) (.t 29)),Ro 31 (.ld 4 true (.t 30))]] [.grj 21 true [32,33] [Ro 32 (.callv (.t 22) [.t 26,.t 31]),Ro 33 (.bin .lss (.t 32) (.k (.int .i64 0)))],Lo 34 (.pick (.t 21) (.t 33) (.k (.bool false)))]) (.cond (.t 34) .skip (.exit 2))) (.seq (.block 3 (.draw [Lo 37 (.mv (.t 0)),Lo 38 (.mv (.t 9)),Lo 39 (.mv (.t 0)),Lo 40 (.mv (.t 9)),Lo 41 (.bin .sub (.t 40) (.k (.int .i64 1))),Lo 42 (.mv (.t 0)),Lo 43 (.mv (.t 9)),Lo 44 (.bin .sub (.t 43) (.k (.int .i64 1))),Lo 45 (.ia 4 (.t 42) (.t 44)),Lo 46 (.ld 4 true (.t 45)),Lo 47 (.mv (.t 0)),Lo 48 (.mv (.t 9)),Lo 49 (.ia 4 (.t 47) (.t 48)),Lo 50 (.ld 4 true (.t 49)),Lo 51 (.ia 4 (.t 37) (.t 38))] [.op ⟨none,.st 4 (.t 51) (.t 46),none⟩,Lo 52 (.ia 4 (.t 39) (.t 41)),.op ⟨none,.st 4 (.t 52) (.t 50),none⟩])) (.reg [Lo 35 (.mv (.t 9)),Lo 36 (.bin .sub (.t 35) (.k (.int .i64 1))),Lo 9 (.asg (.t 36))]))))))) (.reg [Lo 15 (.mv (.t 8)),Lo 16 (.bin .add (.t 15) (.k (.int .i64 1))),Lo 8 (.asg (.t 16))])))))⟩
theorem c237 : compFm Tryz.prog Tryz.f237 [1000000007] = some L237.er := by kernel_rfl
theorem g237 : isGo Tryz.prog 237 = true := by kernel_rfl
def s237 (P : Program) (a0 a1 a2 a3 : V) (S : St) (K : AE → St → Prop) : Prop :=
 bnd (opV S (.bin .add (.k a1.plain.plain.plain) (.k (.int .i64 1)))) fun x1 =>
 loop5 (fun R2 w4 w5 w6 w7 w8 S1 =>
 bnd (opV S1 (.bin .lss (.k w8.plain.plain) (.k w6.plain.plain))) fun x9 =>
 brV x9.plain
 (gjn (fun j10 : V → V → V → V → V → St → Prop =>
 loop6 (fun R17 w19 w20 w21 w22 w23 w24 S3 =>
 bnd (opV S3 (.bin .gtr (.k w24.plain.plain) (.k w20.plain.plain))) fun x25 =>
 gjn (fun j36 : V → V → V → V → V → V → V → V → V → V → St → Prop =>
 gdV x25.plain true
 (bnd (opV S3 (.ia 4 (.k w19.plain.plain) (.k w24.plain.plain))) fun x66 =>
 bnd (opV S3 (.ld 4 true (.k x66.plain))) fun x67 =>
 bnd (opV S3 (.bin .sub (.k w24.plain.plain) (.k (.int .i64 1)))) fun x68 =>
 bnd (opV S3 (.ia 4 (.k w19.plain.plain) (.k x68.plain))) fun x69 =>
 bnd (opV S3 (.ld 4 true (.k x69.plain))) fun x70 =>
 j36 w22.plain w19.plain w24.plain x66 x67 w19.plain w24.plain x68 x69 x70 S3)
 (j36 V.undef V.undef V.undef V.undef V.undef V.undef V.undef V.undef V.undef V.undef S3))
 (fun y37 y38 y39 y40 y41 y42 y43 y44 y45 y46 S4 =>
 gjn (fun j49 : V → V → St → Prop =>
 gdV x25.plain true
 (callvA P y37.plain [y41.plain, y46.plain] S4 (fun x64 S9 =>
 bnd (opV S9 (.bin .lss (.k x64.plain) (.k (.int .i64 0)))) fun x65 =>
 j49 x64 x65 S9) (kp K))
 (j49 V.undef V.undef S4))
 (fun y50 y51 S6 =>
 bnd (opV S6 (.pick (.k x25.plain.plain) (.k y51.plain) (.k (.bool false)))) fun x52 =>
 brV x52.plain
 (bnd (opV S6 (.bin .sub (.k w24.plain.plain) (.k (.int .i64 1)))) fun x53 =>
 bnd (opV S6 (.bin .sub (.k w24.plain.plain) (.k (.int .i64 1)))) fun x54 =>
 bnd (opV S6 (.ia 4 (.k w19.plain.plain) (.k x54.plain))) fun x55 =>
 bnd (opV S6 (.ld 4 true (.k x55.plain))) fun x56 =>
 bnd (opV S6 (.ia 4 (.k w19.plain.plain) (.k w24.plain.plain))) fun x57 =>
 bnd (opV S6 (.ld 4 true (.k x57.plain))) fun x58 =>
 bnd (opV S6 (.ia 4 (.k w19.plain.plain) (.k w24.plain.plain))) fun x59 =>
 effA S6 (.st 4 (.k x59.plain) (.k x56.plain)) fun x60 S7 =>
 bnd (opV S7 (.ia 4 (.k w19.plain.plain) (.k x53.plain))) fun x61 =>
 effA S7 (.st 4 (.k x61.plain) (.k x58.plain)) fun x62 S8 =>
 bnd (opV S8 (.bin .sub (.k w24.plain.plain) (.k (.int .i64 1)))) fun x63 =>
 R17 w19 w20 w21 w22 w23 x63 S8)
 (j10 w19 w20 w21 w22 w23 S6))))
 w4 w5 w6 w7 w8 w8.plain S1)
 (fun z11 z12 z13 z14 z15 S2 =>
 bnd (opV S2 (.bin .add (.k z15.plain.plain) (.k (.int .i64 1)))) fun x16 =>
 R2 z11 z12 z13 z14 x16 S2))
 (K (.ret (.tup [])) S1))
 a0.plain a1.plain a2.plain a3.plain x1 S
theorem e237 : (fun (P : Program) (a0 a1 a2 a3 : V) (S : St) (K : AE → St → Prop) => lvc P L237.c (retL L237.rs K) (frame0 [a0, a1, a2, a3]) S) = s237 := by kernel_rfl
theorem t237 (a0 a1 a2 a3 : V) (r : AE) (hr : ∀ p, r.refsB p) (h : ∀ S, s237 Tryz.prog a0 a1 a2 a3 S fun e S' => e = r ∧ Own S S') : Thr Tryz.prog 237 [a0, a1, a2, a3] r :=
 Thr_of_lvcB (L := L237) hm Tryz.func237 g237 c237 (Nat.le_of_ble_eq_true rfl) hr fun S => by have := h S; rw [← e237] at this; exact this
theorem u237 (a0 a1 a2 a3 : V) (S : St) (Q : AE → St → Prop) (h : WFS S → s237 Tryz.prog a0 a1 a2 a3 S.enter (ovr S Q)) : ACalls Tryz.prog 237 [a0, a1, a2, a3] S Q :=
 ACalls_of_lvc (L := L237) hm Tryz.func237 g237 c237 (Nat.le_of_ble_eq_true rfl) fun hw => by have := h hw; rw [← e237] at this; exact this
def L238 : LF := ⟨220,[],.seq (.seq (.reg [Lo 25 (.mv (.t 2)),Lo 26 (.mv (.t 1)),Lo 27 (.bin .sub (.t 25) (.t 26)),Lo 28 (.bin .eql (.t 27) (.k (.int .i64 1)))]) (.cond (.t 28) (.seq (.reg [Lo 29 (.mv (.t 2)),Lo 10 (.asg (.t 29))]) (.seq (.reg [Lo 30 (.mv (.t 3)),Lo 11 (.asg (.t 30))]) (.seqj [0,1,10] (.block 0 (.loop [0,1,4,10,11] (.seq (.seq (.reg [Lo 31 (.mv (.t 10)),Lo 32 (.mv (.t 11)),Lo 33 (.bin .lss (.t 31) (.t 32))]) (.cond (.t 33) .skip (.exit 0))) (.block 1 (.seq (.reg [Lo 34 (.mv (.t 10)),Lo 35 (.mv (.t 11)),Lo 36 (.bin .add (.t 34) (.t 35)),Lo 37 (.cvi .u64 (.t 36)),Lo 38 (.bin .shr (.t 37) (.k (.int .u64 1))),Lo 39 (.cvi .i64 (.t 38)),Lo 12 (.asg (.t 39))]) (.seq (.draw [Lo 40 (.mv (.t 4)),Lo 41 (.mv (.t 0)),Lo 42 (.mv (.t 12)),Lo 43 (.ia 4 (.t 41) (.t 42)),Lo 44 (.ld 4 true (.t 43)),Lo 45 (.mv (.t 0)),Lo 46 (.mv (.t 1)),Lo 47 (.ia 4 (.t 45) (.t 46)),Lo 48 (.ld 4 true (.t 47))] [Lo 49 (.callv (.t 40) [.t 44,.t 48]),Lo 50 (.bin .lss (.t 49) (.k (.int .i64 0)))]) (.cond (.t 50) (.reg [Lo 51 (.mv (.t 12)),Lo 52 (.bin .add (.t 51) (.k (.int .i64 1))),Lo 10 (.asg (.t 52))]) (.reg [Lo 53 (.mv (.t 12)),Lo 11 (.asg (.t 53))])))))))) (.seq (.seq (.reg [Lo 54 (.mv (.t 1)),Lo 13 (.asg (.t 54))]) (.block 2 (.loop [0,10,13] (.seq (.seq (.reg [Lo 55 (.mv (.t 13)),Lo 56 (.mv (.t 10)),Lo 57 (.bin .sub (.t 56) (.k (.int .i64 1))),Lo 58 (.bin .lss (.t 55) (.t 57))]) (.cond (.t 58) .skip (.exit 2))) (.seq (.block 3 (.draw [Lo 61 (.mv (.t 0)),Lo 62 (.mv (.t 13)),Lo 63 (.mv (.t 0)),Lo 64 (.mv (.t 13)),Lo 65 (.bin .add (.t 64) (.k (.int .i64 1))),Lo 66 (.mv (.t 0)),Lo 67 (.mv (.t 13)),Lo 68 (.bin .add (.t 67) (.k (.int .i64 1))),Lo 69 (.ia 4 (.t 66) (.t 68)),Lo 70 (.ld 4 true (.t 69)),Lo 71 (.mv (.t 0)),Lo 72 (.mv (.t 13)),Lo 73 (.ia 4 (.t 71) (.t 72)),Lo 74 (.ld 4 true (.t 73)),Lo 75 (.ia 4 (.t 61) (.t 62))] [.op ⟨none,.st 4 (.t 75) (.t 70),none⟩,Lo 76 (.ia 4 (.t 63) (.t 65)),.op ⟨none,.st 4 (.t 76) (.t 74),none⟩])) (.reg [Lo 59 (.mv (.t 13)),Lo 60 (.bin .add (.t 59) (.k (.int .i64 1))),Lo 13 (.asg (.t 60))])))))) .ret)))) .skip)) (.seq (.seq (.reg [Lo 77 (.mv (.t 3)),Lo 78 (.mv (.t 2)),Lo 79 (.bin .sub (.t 77) (.t 78)),Lo 80 (.bin .eql (.t 79) (.k (.int .i64 1)))]) (.cond (.t 80) (.seq (.reg [Lo 81 (.mv (.t 1)),Lo 14 (.asg (.t 81))]) (.seq (.reg [Lo 82 (.mv (.t 2)),Lo 15 (.asg (.t 82))]) (.seqj [0,2,14] (.block 4 (.loop [0,2,4,14,15] (.seq (.seq (.reg [Lo 83 (.mv (.t 14)),Lo 84 (.mv (.t 15)),Lo 85 (.bin .lss (.t 83) (.t 84))]) (.cond (.t 85) .skip (.exit 4))) (.block 5 (.seq (.reg [Lo 86 (.mv (.t 14)),Lo 87 (.mv (.t 15)),Lo 88 (.bin .add (.t 86) (.t 87)),Lo 89 (.cvi .u64 (.t 88)),Lo 90 (.bin .shr (.t 89) (.k (.int .u64 1))),Lo 91 (.cvi .i64 (.t 90)),Lo 16 (.asg (.t 91))]) (.seq (.draw [Lo 92 (.mv (.t 4)),Lo 93 (.mv (.t 0)),Lo 94 (.mv (.t 2)),Lo 95 (.ia 4 (.t 93) (.t 94)),Lo 96 (.ld 4 true (.t 95)),Lo 97 (.mv (.t 0)),Lo 98 (.mv (.t 16)),Lo 99 (.ia 4 (.t 97) (.t 98)),Lo 100 (.ld 4 true (.t 99))] [Lo 101 (.callv (.t 92) [.t 96,.t 100]),Lo 102 (.bin .lss (.t 101) (.k (.int .i64 0))),Lo 103 (.un .not (.t 102))]) (.cond (.t 103) (.reg [Lo 104 (.mv (.t 16)),Lo 105 (.bin .add (.t 104) (.k (.int .i64 1))),Lo 14 (.asg (.t 105))]) (.reg [Lo 106 (.mv (.t 16)),Lo 15 (.asg (.t 106))])))))))) (.seq (.seq (.reg [Lo 107 (.mv (.t 2)),Lo 17 (.asg (.t 107))]) (.block 6 (.loop [0,14,17] (.seq (.seq (.reg [Lo 108 (.mv (.t 17)),Lo 109 (.mv (.t 14)),Lo 110 (.bin .gtr (.t 108) (.t 109))]) (.cond (.t 110) .skip (.exit 6))) (.seq (.block 7 (.draw [Lo 113 (.mv (.t 0)),Lo 114 (.mv (.t 17)),Lo 115 (.mv (.t 0)),Lo 116 (.mv (.t 17)),Lo 117 (.bin .sub (.t 116) (.k (.int .i64 1))),Lo 118 (.mv (.t 0)),Lo 119 (.mv (.t 17)),Lo 120 (.bin .sub (.t 119) (.k (.int .i64 1))),Lo 121 (.ia 4 (.t 118) (.t 120)),Lo 122 (.ld 4 true (.t 121)),Lo 123 (.mv (.t 0)),Lo 124 (.mv (.t 17)),Lo 125 (.ia 4 (.t 123) (.t 124)),Lo 126 (.ld 4 true (.t 125)),Lo 127 (.ia 4 (.t 113) (.t 114))] [.op ⟨none,.st 4 (.t 127) (.t 122),none⟩,Lo 128 (.ia 4 (.t 115) (.t 117)),.op ⟨none,.st 4 (.t 128) (.t 126),none⟩])) (.reg [Lo 111 (.mv (.t 17)),Lo 112 (.bin .sub (.t 111) (.k (.int .i64 1))),Lo 17 (.asg (.t 112))])))))) .ret)))) .skip)) (.seq (.reg [Lo 129 (.mv (.t 1)),Lo 130 (.mv (.t 3)),Lo 131 (.bin .add (.t 129) (.t 130)),Lo 132 (.cvi .u64 (.t 131)),Lo 133 (.bin .shr (.t 132) (.k (.int .u64 1))),Lo 134 (.cvi .i64 (.t 133)),Lo 18 (.asg (.t 134))]) (.seq (.reg [Lo 135 (.mv (.t 18)),Lo 136 (.mv (.t 2)),Lo 137 (.bin .add (.t 135) (.t 136)),Lo 19 (.asg (.t 137))]) (.seq (.reg [Lo 20 (.asg (.k (.int .i64 0))),Lo 21 (.asg (.k (.int .i64 0)))]) (.seqj [0,1,2,3,4,18,19,20,21] (.seq (.reg [Lo 138 (.mv (.t 2)),Lo 139 (.mv (.t 18)),Lo 140 (.bin .gtr (.t 138) (.t 139))]) (.cond (.t 140) (.seq (.reg [Lo 141 (.mv (.t 19)),Lo 142 (.mv (.t 3)),Lo 143 (.bin .sub (.t 141) (.t 142)),Lo 20 (.asg (.t 143))]) (.reg [Lo 144 (.mv (.t 18)),Lo 21 (.asg (.t 144))])) (.seq (.reg [Lo 145 (.mv (.t 1)),Lo 20 (.asg (.t 145))]) (.reg [Lo 146 (.mv (.t 2)),Lo 21 (.asg (.t 146))])))) (.seq (.reg [Lo 147 (.mv (.t 19)),Lo 148 (.bin .sub (.t 147) (.k (.int .i64 1))),Lo 22 (.asg (.t 148))]) (.seqj [0,1,2,3,4,18,19,20] (.block 8 (.loop [0,1,2,3,4,18,19,20,21,22] (.seq (.seq (.reg [Lo 149 (.mv (.t 20)),Lo 150 (.mv (.t 21)),Lo 151 (.bin .lss (.t 149) (.t 150))]) (.cond (.t 151) .skip (.exit 8))) (.block 9 (.seq (.reg [Lo 152 (.mv (.t 20)),Lo 153 (.mv (.t 21)),Lo 154 (.bin .add (.t 152) (.t 153)),Lo 155 (.cvi .u64 (.t 154)),Lo 156 (.bin .shr (.t 155) (.k (.int .u64 1))),Lo 157 (.cvi .i64 (.t 156)),Lo 23 (.asg (.t 157))]) (.seq (.draw [Lo 158 (.mv (.t 4)),Lo 159 (.mv (.t 0)),Lo 160 (.mv (.t 22)),Lo 161 (.mv (.t 23)),Lo 162 (.bin .sub (.t 160) (.t 161)),Lo 163 (.ia 4 (.t 159) (.t 162)),Lo 164 (.ld 4 true (.t 163)),Lo 165 (.mv (.t 0)),Lo 166 (.mv (.t 23)),Lo 167 (.ia 4 (.t 165) (.t 166)),Lo 168 (.ld 4 true (.t 167))] [Lo 169 (.callv (.t 158) [.t 164,.t 168]),Lo 170 (.bin .lss (.t 169) (.k (.int .i64 0))),Lo 171 (.un .not (.t 170))]) (.cond (.t 171) (.reg [Lo 172 (.mv (.t 23)),Lo 173 (.bin .add (.t 172) (.k (.int .i64 1))),Lo 20 (.asg (.t 173))]) (.reg [Lo 174 (.mv (.t 23)),Lo 21 (.asg (.t 174))])))))))) (.seq (.reg [Lo 175 (.mv (.t 19)),Lo 176 (.mv (.t 20)),Lo 177 (.bin .sub (.t 175) (.t 176)),Lo 24 (.asg (.t 177))]) (.seqj [0,1,3,4,18,20,24] (.seq (.reg [Lo 178 (.mv (.t 20)),Lo 179 (.mv (.t 2)),Lo 180 (.bin .lss (.t 178) (.t 179)),Lo 181 (.mv (.t 180)),.grj 181 true [182,183,184] [Ro 182 (.mv (.t 2)),Ro 183 (.mv (.t 24)),Ro 184 (.bin .lss (.t 182) (.t 183))],Lo 185 (.pick (.t 181) (.t 184) (.k (.bool false)))]) (.cond (.t 185) (.reg [Lo 186 (.mv (.t 0)),Lo 187 (.mv (.t 20)),Lo 188 (.mv (.t 2)),Lo 189 (.mv (.t 24)),Lo 190 (.mv (.t 4)),Lo 191 (.call 251 [.t 186,.t 187,.t 188,.t 189,.t 190])]) .skip)) (.seqj [0,3,4,18,24] (.seq (.reg [Lo 192 (.mv (.t 1)),Lo 193 (.mv (.t 20)),Lo 194 (.bin .lss (.t 192) (.t 193)),Lo 195 (.mv (.t 194)),.grj 195 true [196,197,198] [Ro 196 (.mv (.t 20)),Ro 197 (.mv (.t 18)),Ro 198 (.bin .lss (.t 196) (.t 197))],Lo 199 (.pick (.t 195) (.t 198) (.k (.bool false)))]) (.cond (.t 199) (.reg [Lo 200 (.mv (.t 0)),Lo 201 (.mv (.t 1)),Lo 202 (.mv (.t 20)),Lo 203 (.mv (.t 18)),Lo 204 (.mv (.t 4)),Lo 205 (.call 238 [.t 200,.t 201,.t 202,.t 203,.t 204])]) .skip)) (.seq (.reg [Lo 206 (.mv (.t 18)),Lo 207 (.mv (.t 24)),Lo 208 (.bin .lss (.t 206) (.t 207)),Lo 209 (.mv (.t 208)),.grj 209 true [210,211,212] [Ro 210 (.mv (.t 24)),Ro 211 (.mv (.t 3)),Ro 212 (.bin .lss (.t 210) (.t 211))],Lo 213 (.pick (.t 209) (.t 212) (.k (.bool false)))]) (.cond (.t 213) (.reg [Lo 214 (.mv (.t 0)),Lo 215 (.mv (.t 18)),Lo 216 (.mv (.t 24)),Lo 217 (.mv (.t 3)),Lo 218 (.mv (.t 4)),Lo 219 (.call 238 [.t 214,.t 215,.t 216,.t 217,.t 218])]) .skip))))))))))))⟩
theorem c238 : compFm Tryz.prog Tryz.f238 [1000000007] = some L238.er := by kernel_rfl
theorem g238 : isGo Tryz.prog 238 = true := by kernel_rfl
def s238 (P : Program) (a0 a1 a2 a3 a4 : V) (S : St) (K : AE → St → Prop) : Prop :=
 bnd (opV S (.bin .sub (.k a2.plain.plain.plain) (.k a1.plain.plain.plain))) fun x1 =>
 bnd (opV S (.bin .eql (.k x1.plain) (.k (.int .i64 1)))) fun x2 =>
 brV x2.plain
 (gjn (fun j3 : V → V → V → St → Prop =>
 loop5 (fun R25 w27 w28 w29 w30 w31 S5 =>
 bnd (opV S5 (.bin .lss (.k w30.plain.plain) (.k w31.plain.plain))) fun x32 =>
 brV x32.plain
 (bnd (opV S5 (.bin .add (.k w30.plain.plain) (.k w31.plain.plain))) fun x33 =>
 bnd (opV S5 (.cvi .u64 (.k x33.plain))) fun x34 =>
 bnd (opV S5 (.bin .shr (.k x34.plain) (.k (.int .u64 1)))) fun x35 =>
 bnd (opV S5 (.cvi .i64 (.k x35.plain))) fun x36 =>
 bnd (opV S5 (.ia 4 (.k w27.plain.plain) (.k x36.plain.plain))) fun x37 =>
 bnd (opV S5 (.ld 4 true (.k x37.plain))) fun x38 =>
 bnd (opV S5 (.ia 4 (.k w27.plain.plain) (.k w28.plain.plain))) fun x39 =>
 bnd (opV S5 (.ld 4 true (.k x39.plain))) fun x40 =>
 callvA P w29.plain.plain [x38.plain, x40.plain] S5 (fun x41 S6 =>
 bnd (opV S6 (.bin .lss (.k x41.plain) (.k (.int .i64 0)))) fun x42 =>
 brV x42.plain
 (bnd (opV S6 (.bin .add (.k x36.plain.plain) (.k (.int .i64 1)))) fun x43 =>
 R25 w27 w28 w29 x43 w31 S6)
 (R25 w27 w28 w29 w30 x36.plain S6)) (kp K))
 (j3 w27 w28 w30 S5))
 a0.plain a1.plain a4.plain a2.plain.plain a3.plain.plain S)
 (fun z4 z5 z6 S1 =>
 loop3 (fun R7 w9 w10 w11 S2 =>
 bnd (opV S2 (.bin .sub (.k w10.plain.plain) (.k (.int .i64 1)))) fun x12 =>
 bnd (opV S2 (.bin .lss (.k w11.plain.plain) (.k x12.plain))) fun x13 =>
 brV x13.plain
 (bnd (opV S2 (.bin .add (.k w11.plain.plain) (.k (.int .i64 1)))) fun x14 =>
 bnd (opV S2 (.bin .add (.k w11.plain.plain) (.k (.int .i64 1)))) fun x15 =>
 bnd (opV S2 (.ia 4 (.k w9.plain.plain) (.k x15.plain))) fun x16 =>
 bnd (opV S2 (.ld 4 true (.k x16.plain))) fun x17 =>
 bnd (opV S2 (.ia 4 (.k w9.plain.plain) (.k w11.plain.plain))) fun x18 =>
 bnd (opV S2 (.ld 4 true (.k x18.plain))) fun x19 =>
 bnd (opV S2 (.ia 4 (.k w9.plain.plain) (.k w11.plain.plain))) fun x20 =>
 effA S2 (.st 4 (.k x20.plain) (.k x17.plain)) fun x21 S3 =>
 bnd (opV S3 (.ia 4 (.k w9.plain.plain) (.k x14.plain))) fun x22 =>
 effA S3 (.st 4 (.k x22.plain) (.k x19.plain)) fun x23 S4 =>
 bnd (opV S4 (.bin .add (.k w11.plain.plain) (.k (.int .i64 1)))) fun x24 =>
 R7 w9 w10 x24 S4)
 (K (.ret (.tup [])) S2))
 z4 z6 z5.plain S1))
 (bnd (opV S (.bin .sub (.k a3.plain.plain.plain) (.k a2.plain.plain.plain))) fun x44 =>
 bnd (opV S (.bin .eql (.k x44.plain) (.k (.int .i64 1)))) fun x45 =>
 brV x45.plain
 (gjn (fun j46 : V → V → V → St → Prop =>
 loop5 (fun R67 w69 w70 w71 w72 w73 S11 =>
 bnd (opV S11 (.bin .lss (.k w72.plain.plain) (.k w73.plain.plain))) fun x74 =>
 brV x74.plain
 (bnd (opV S11 (.bin .add (.k w72.plain.plain) (.k w73.plain.plain))) fun x75 =>
 bnd (opV S11 (.cvi .u64 (.k x75.plain))) fun x76 =>
 bnd (opV S11 (.bin .shr (.k x76.plain) (.k (.int .u64 1)))) fun x77 =>
 bnd (opV S11 (.cvi .i64 (.k x77.plain))) fun x78 =>
 bnd (opV S11 (.ia 4 (.k w69.plain.plain) (.k w70.plain.plain))) fun x79 =>
 bnd (opV S11 (.ld 4 true (.k x79.plain))) fun x80 =>
 bnd (opV S11 (.ia 4 (.k w69.plain.plain) (.k x78.plain.plain))) fun x81 =>
 bnd (opV S11 (.ld 4 true (.k x81.plain))) fun x82 =>
 callvA P w71.plain.plain [x80.plain, x82.plain] S11 (fun x83 S12 =>
 bnd (opV S12 (.bin .lss (.k x83.plain) (.k (.int .i64 0)))) fun x84 =>
 bnd (opV S12 (.un .not (.k x84.plain))) fun x85 =>
 brV x85.plain
 (bnd (opV S12 (.bin .add (.k x78.plain.plain) (.k (.int .i64 1)))) fun x86 =>
 R67 w69 w70 w71 x86 w73 S12)
 (R67 w69 w70 w71 w72 x78.plain S12)) (kp K))
 (j46 w69 w70 w72 S11))
 a0.plain a2.plain a4.plain a1.plain.plain a2.plain.plain S)
 (fun z47 z48 z49 S7 =>
 loop3 (fun R50 w52 w53 w54 S8 =>
 bnd (opV S8 (.bin .gtr (.k w54.plain.plain) (.k w53.plain.plain))) fun x55 =>
 brV x55.plain
 (bnd (opV S8 (.bin .sub (.k w54.plain.plain) (.k (.int .i64 1)))) fun x56 =>
 bnd (opV S8 (.bin .sub (.k w54.plain.plain) (.k (.int .i64 1)))) fun x57 =>
 bnd (opV S8 (.ia 4 (.k w52.plain.plain) (.k x57.plain))) fun x58 =>
 bnd (opV S8 (.ld 4 true (.k x58.plain))) fun x59 =>
 bnd (opV S8 (.ia 4 (.k w52.plain.plain) (.k w54.plain.plain))) fun x60 =>
 bnd (opV S8 (.ld 4 true (.k x60.plain))) fun x61 =>
 bnd (opV S8 (.ia 4 (.k w52.plain.plain) (.k w54.plain.plain))) fun x62 =>
 effA S8 (.st 4 (.k x62.plain) (.k x59.plain)) fun x63 S9 =>
 bnd (opV S9 (.ia 4 (.k w52.plain.plain) (.k x56.plain))) fun x64 =>
 effA S9 (.st 4 (.k x64.plain) (.k x61.plain)) fun x65 S10 =>
 bnd (opV S10 (.bin .sub (.k w54.plain.plain) (.k (.int .i64 1)))) fun x66 =>
 R50 w52 w53 x66 S10)
 (K (.ret (.tup [])) S8))
 z47 z49 z48.plain S7))
 (bnd (opV S (.bin .add (.k a1.plain.plain.plain) (.k a3.plain.plain.plain))) fun x87 =>
 bnd (opV S (.cvi .u64 (.k x87.plain))) fun x88 =>
 bnd (opV S (.bin .shr (.k x88.plain) (.k (.int .u64 1)))) fun x89 =>
 bnd (opV S (.cvi .i64 (.k x89.plain))) fun x90 =>
 bnd (opV S (.bin .add (.k x90.plain.plain) (.k a2.plain.plain.plain))) fun x91 =>
 gjn (fun j92 : V → V → V → V → V → V → V → V → V → St → Prop =>
 bnd (opV S (.bin .gtr (.k a2.plain.plain.plain) (.k x90.plain.plain))) fun x186 =>
 brV x186.plain
 (bnd (opV S (.bin .sub (.k x91.plain.plain) (.k a3.plain.plain.plain))) fun x187 =>
 j92 a0.plain a1.plain a2.plain a3.plain a4.plain x90 x91 x187 x90.plain S)
 (j92 a0.plain a1.plain a2.plain a3.plain a4.plain x90 x91 a1.plain.plain a2.plain.plain S))
 (fun z93 z94 z95 z96 z97 z98 z99 z100 z101 S13 =>
 bnd (opV S13 (.bin .sub (.k z99.plain.plain) (.k (.int .i64 1)))) fun x102 =>
 gjn (fun j103 : V → V → V → V → V → V → V → V → St → Prop =>
 loop10 (fun R160 w162 w163 w164 w165 w166 w167 w168 w169 w170 w171 S26 =>
 bnd (opV S26 (.bin .lss (.k w169.plain.plain) (.k w170.plain.plain))) fun x172 =>
 brV x172.plain
 (bnd (opV S26 (.bin .add (.k w169.plain.plain) (.k w170.plain.plain))) fun x173 =>
 bnd (opV S26 (.cvi .u64 (.k x173.plain))) fun x174 =>
 bnd (opV S26 (.bin .shr (.k x174.plain) (.k (.int .u64 1)))) fun x175 =>
 bnd (opV S26 (.cvi .i64 (.k x175.plain))) fun x176 =>
 bnd (opV S26 (.bin .sub (.k w171.plain.plain) (.k x176.plain.plain))) fun x177 =>
 bnd (opV S26 (.ia 4 (.k w162.plain.plain) (.k x177.plain))) fun x178 =>
 bnd (opV S26 (.ld 4 true (.k x178.plain))) fun x179 =>
 bnd (opV S26 (.ia 4 (.k w162.plain.plain) (.k x176.plain.plain))) fun x180 =>
 bnd (opV S26 (.ld 4 true (.k x180.plain))) fun x181 =>
 callvA P w166.plain.plain [x179.plain, x181.plain] S26 (fun x182 S27 =>
 bnd (opV S27 (.bin .lss (.k x182.plain) (.k (.int .i64 0)))) fun x183 =>
 bnd (opV S27 (.un .not (.k x183.plain))) fun x184 =>
 brV x184.plain
 (bnd (opV S27 (.bin .add (.k x176.plain.plain) (.k (.int .i64 1)))) fun x185 =>
 R160 w162 w163 w164 w165 w166 w167 w168 x185 w170 w171 S27)
 (R160 w162 w163 w164 w165 w166 w167 w168 w169 x176.plain w171 S27)) (kp K))
 (j103 w162 w163 w164 w165 w166 w167 w168 w169 S26))
 z93 z94 z95 z96 z97 z98 z99 z100 z101 x102 S13)
 (fun z104 z105 z106 z107 z108 z109 z110 z111 S14 =>
 bnd (opV S14 (.bin .sub (.k z110.plain.plain) (.k z111.plain.plain))) fun x112 =>
 gjn (fun j113 : V → V → V → V → V → V → V → St → Prop =>
 bnd (opV S14 (.bin .lss (.k z111.plain.plain) (.k z106.plain.plain))) fun x149 =>
 gjn (fun j153 : V → V → V → St → Prop =>
 gdV x149.plain true
 (bnd (opV S14 (.bin .lss (.k z106.plain.plain) (.k x112.plain.plain))) fun x159 =>
 j153 z106.plain x112.plain x159 S14)
 (j153 V.undef V.undef V.undef S14))
 (fun y154 y155 y156 S24 =>
 bnd (opV S24 (.pick (.k x149.plain.plain) (.k y156.plain) (.k (.bool false)))) fun x157 =>
 brV x157.plain
 (callA P 251 [z104.plain.plain, z111.plain.plain, z106.plain.plain, x112.plain.plain, z108.plain.plain] S24 (fun x158 S25 =>
 j113 z104 z105 z107 z108 z109 z111 x112 S25) (kp K))
 (j113 z104 z105 z107 z108 z109 z111 x112 S24)))
 (fun z114 z115 z116 z117 z118 z119 z120 S15 =>
 gjn (fun j121 : V → V → V → V → V → St → Prop =>
 bnd (opV S15 (.bin .lss (.k z115.plain.plain) (.k z119.plain.plain))) fun x138 =>
 gjn (fun j142 : V → V → V → St → Prop =>
 gdV x138.plain true
 (bnd (opV S15 (.bin .lss (.k z119.plain.plain) (.k z118.plain.plain))) fun x148 =>
 j142 z119.plain z118.plain x148 S15)
 (j142 V.undef V.undef V.undef S15))
 (fun y143 y144 y145 S21 =>
 bnd (opV S21 (.pick (.k x138.plain.plain) (.k y145.plain) (.k (.bool false)))) fun x146 =>
 brV x146.plain
 (callA P 238 [z114.plain.plain, z115.plain.plain, z119.plain.plain, z118.plain.plain, z117.plain.plain] S21 (fun x147 S22 =>
 j121 z114 z116 z117 z118 z120 S22) (kp K))
 (j121 z114 z116 z117 z118 z120 S21)))
 (fun z122 z123 z124 z125 z126 S16 =>
 bnd (opV S16 (.bin .lss (.k z125.plain.plain) (.k z126.plain.plain))) fun x127 =>
 gjn (fun j131 : V → V → V → St → Prop =>
 gdV x127.plain true
 (bnd (opV S16 (.bin .lss (.k z126.plain.plain) (.k z123.plain.plain))) fun x137 =>
 j131 z126.plain z123.plain x137 S16)
 (j131 V.undef V.undef V.undef S16))
 (fun y132 y133 y134 S18 =>
 bnd (opV S18 (.pick (.k x127.plain.plain) (.k y134.plain) (.k (.bool false)))) fun x135 =>
 brV x135.plain
 (callA P 238 [z122.plain.plain, z125.plain.plain, z126.plain.plain, z123.plain.plain, z124.plain.plain] S18 (fun x136 S19 =>
 K (.ret (.tup [])) S19) (kp K))
 (K (.ret (.tup [])) S18))))))))
theorem e238 : (fun (P : Program) (a0 a1 a2 a3 a4 : V) (S : St) (K : AE → St → Prop) => lvc P L238.c (retL L238.rs K) (frame0 [a0, a1, a2, a3, a4]) S) = s238 := by kernel_rfl
theorem u238 (a0 a1 a2 a3 a4 : V) (S : St) (Q : AE → St → Prop) (h : WFS S → s238 Tryz.prog a0 a1 a2 a3 a4 S.enter (ovr S Q)) : ACalls Tryz.prog 238 [a0, a1, a2, a3, a4] S Q :=
 ACalls_of_lvc (L := L238) hm Tryz.func238 g238 c238 (Nat.le_of_ble_eq_true rfl) fun hw => by have := h hw; rw [← e238] at this; exact this
def L228 : LF := ⟨63,[],.seq (.reg [Lo 6 (.asg (.k (.int .i64 20)))]) (.seq (.reg [Lo 10 (.mv (.t 6)),Lo 7 (.asg (.k (.int .i64 0))),Lo 8 (.asg (.t 10))]) (.seqj [0,1,2,6,7] (.block 0 (.loop [0,1,2,6,7,8] (.seq (.seq (.reg [Lo 11 (.mv (.t 8)),Lo 12 (.mv (.t 1)),Lo 13 (.bin .leq (.t 11) (.t 12))]) (.cond (.t 13) .skip (.exit 0))) (.block 1 (.seq (.reg [Lo 14 (.mv (.t 0)),Lo 15 (.mv (.t 7)),Lo 16 (.mv (.t 8)),Lo 17 (.mv (.t 2)),Lo 18 (.call 237 [.t 14,.t 15,.t 16,.t 17])]) (.seq (.reg [Lo 19 (.mv (.t 8)),Lo 7 (.asg (.t 19))]) (.reg [Lo 20 (.mv (.t 8)),Lo 21 (.mv (.t 6)),Lo 22 (.bin .add (.t 20) (.t 21)),Lo 8 (.asg (.t 22))]))))))) (.seq (.reg [Lo 23 (.mv (.t 0)),Lo 24 (.mv (.t 7)),Lo 25 (.mv (.t 1)),Lo 26 (.mv (.t 2)),Lo 27 (.call 237 [.t 23,.t 24,.t 25,.t 26])]) (.block 2 (.loop [0,1,2,6] (.seq (.seq (.reg [Lo 28 (.mv (.t 6)),Lo 29 (.mv (.t 1)),Lo 30 (.bin .lss (.t 28) (.t 29))]) (.cond (.t 30) .skip (.exit 2))) (.block 3 (.seq (.reg [Lo 31 (.mv (.t 6)),Lo 32 (.bin .mul (.k (.int .i64 2)) (.t 31)),Lo 7 (.asg (.k (.int .i64 0))),Lo 8 (.asg (.t 32))]) (.seqj [0,1,2,6,7] (.block 4 (.loop [0,1,2,6,7,8] (.seq (.seq (.reg [Lo 33 (.mv (.t 8)),Lo 34 (.mv (.t 1)),Lo 35 (.bin .leq (.t 33) (.t 34))]) (.cond (.t 35) .skip (.exit 4))) (.block 5 (.seq (.reg [Lo 36 (.mv (.t 0)),Lo 37 (.mv (.t 7)),Lo 38 (.mv (.t 7)),Lo 39 (.mv (.t 6)),Lo 40 (.bin .add (.t 38) (.t 39)),Lo 41 (.mv (.t 8)),Lo 42 (.mv (.t 2)),Lo 43 (.call 238 [.t 36,.t 37,.t 40,.t 41,.t 42])]) (.seq (.reg [Lo 44 (.mv (.t 8)),Lo 7 (.asg (.t 44))]) (.reg [Lo 45 (.mv (.t 8)),Lo 46 (.mv (.t 6)),Lo 47 (.bin .mul (.k (.int .i64 2)) (.t 46)),Lo 48 (.bin .add (.t 45) (.t 47)),Lo 8 (.asg (.t 48))]))))))) (.seqj [0,1,2,6] (.seq (.reg [Lo 49 (.mv (.t 7)),Lo 50 (.mv (.t 6)),Lo 51 (.bin .add (.t 49) (.t 50)),Lo 9 (.asg (.t 51))]) (.seq (.reg [Lo 52 (.mv (.t 9)),Lo 53 (.mv (.t 1)),Lo 54 (.bin .lss (.t 52) (.t 53))]) (.cond (.t 54) (.reg [Lo 55 (.mv (.t 0)),Lo 56 (.mv (.t 7)),Lo 57 (.mv (.t 9)),Lo 58 (.mv (.t 1)),Lo 59 (.mv (.t 2)),Lo 60 (.call 238 [.t 55,.t 56,.t 57,.t 58,.t 59])]) .skip))) (.reg [Lo 61 (.mv (.t 6)),Lo 62 (.bin .mul (.t 61) (.k (.int .i64 2))),Lo 6 (.asg (.t 62))])))))))))))⟩
theorem c228 : compFm Tryz.prog Tryz.f228 [1000000007] = some L228.er := by kernel_rfl
theorem g228 : isGo Tryz.prog 228 = true := by kernel_rfl
def s228 (P : Program) (a0 a1 a2 : V) (S : St) (K : AE → St → Prop) : Prop :=
 gjn (fun j1 : V → V → V → V → V → St → Prop =>
 loop6 (fun R44 w46 w47 w48 w49 w50 w51 S9 =>
 bnd (opV S9 (.bin .leq (.k w51.plain.plain) (.k w47.plain.plain))) fun x52 =>
 brV x52.plain
 (callA P 237 [w46.plain.plain, w50.plain.plain, w51.plain.plain, w48.plain.plain] S9 (fun x53 S10 =>
 bnd (opV S10 (.bin .add (.k w51.plain.plain) (.k w49.plain.plain))) fun x54 =>
 R44 w46 w47 w48 w49 w51.plain x54 S10) (kp K))
 (j1 w46 w47 w48 w49 w50 S9))
 a0.plain a1.plain a2.plain ((.int .i64 20)) ((.int .i64 0)) ((.int .i64 20)) S)
 (fun z2 z3 z4 z5 z6 S1 =>
 callA P 237 [z2.plain.plain, z6.plain.plain, z3.plain.plain, z4.plain.plain] S1 (fun x7 S2 =>
 loop4 (fun R8 w10 w11 w12 w13 S3 =>
 bnd (opV S3 (.bin .lss (.k w13.plain.plain) (.k w11.plain.plain))) fun x14 =>
 brV x14.plain
 (bnd (opV S3 (.bin .mul (.k (.int .i64 2)) (.k w13.plain.plain))) fun x15 =>
 gjn (fun j16 : V → V → V → V → V → St → Prop =>
 loop6 (fun R31 w33 w34 w35 w36 w37 w38 S7 =>
 bnd (opV S7 (.bin .leq (.k w38.plain.plain) (.k w34.plain.plain))) fun x39 =>
 brV x39.plain
 (bnd (opV S7 (.bin .add (.k w37.plain.plain) (.k w36.plain.plain))) fun x40 =>
 callA P 238 [w33.plain.plain, w37.plain.plain, x40.plain, w38.plain.plain, w35.plain.plain] S7 (fun x41 S8 =>
 bnd (opV S8 (.bin .mul (.k (.int .i64 2)) (.k w36.plain.plain))) fun x42 =>
 bnd (opV S8 (.bin .add (.k w38.plain.plain) (.k x42.plain))) fun x43 =>
 R31 w33 w34 w35 w36 w38.plain x43 S8) (kp K))
 (j16 w33 w34 w35 w36 w37 S7))
 w10 w11 w12 w13 ((.int .i64 0)) x15 S3)
 (fun z17 z18 z19 z20 z21 S4 =>
 gjn (fun j22 : V → V → V → V → St → Prop =>
 bnd (opV S4 (.bin .add (.k z21.plain.plain) (.k z20.plain.plain))) fun x28 =>
 bnd (opV S4 (.bin .lss (.k x28.plain.plain) (.k z18.plain.plain))) fun x29 =>
 brV x29.plain
 (callA P 238 [z17.plain.plain, z21.plain.plain, x28.plain.plain, z18.plain.plain, z19.plain.plain] S4 (fun x30 S6 =>
 j22 z17 z18 z19 z20 S6) (kp K))
 (j22 z17 z18 z19 z20 S4))
 (fun z23 z24 z25 z26 S5 =>
 bnd (opV S5 (.bin .mul (.k z26.plain.plain) (.k (.int .i64 2)))) fun x27 =>
 R8 z23 z24 z25 x27 S5)))
 (K (.ret (.tup [])) S3))
 z2 z3 z4 z5 S2) (kp K))
theorem e228 : (fun (P : Program) (a0 a1 a2 : V) (S : St) (K : AE → St → Prop) => lvc P L228.c (retL L228.rs K) (frame0 [a0, a1, a2]) S) = s228 := by kernel_rfl
theorem t228 (a0 a1 a2 : V) (r : AE) (h : ∀ S, s228 Tryz.prog a0 a1 a2 S fun e S' => e = r ∧ S' = S) : Thr Tryz.prog 228 [a0, a1, a2] r :=
 Thr_of_lvc (L := L228) hm Tryz.func228 g228 c228 (Nat.le_of_ble_eq_true rfl) fun S => by have := h S; rw [← e228] at this; exact this
theorem u228 (a0 a1 a2 : V) (S : St) (Q : AE → St → Prop) (h : WFS S → s228 Tryz.prog a0 a1 a2 S.enter (ovr S Q)) : ACalls Tryz.prog 228 [a0, a1, a2] S Q :=
 ACalls_of_lvc (L := L228) hm Tryz.func228 g228 c228 (Nat.le_of_ble_eq_true rfl) fun hw => by have := h hw; rw [← e228] at this; exact this
def L216 : LF := ⟨9,[],.reg [Lo 4 (.mv (.t 0)),Lo 5 (.mv (.t 0)),Lo 6 (.len (.t 5)),Lo 7 (.mv (.t 1)),Lo 8 (.call 228 [.t 4,.t 6,.t 7])]⟩
theorem c216 : compFm Tryz.prog Tryz.f216 [1000000007] = some L216.er := by kernel_rfl
theorem g216 : isGo Tryz.prog 216 = true := by kernel_rfl
def s216 (P : Program) (a0 a1 : V) (S : St) (K : AE → St → Prop) : Prop :=
 bnd (opV S (.len (.k a0.plain.plain.plain))) fun x1 =>
 callA P 228 [a0.plain.plain.plain, x1.plain, a1.plain.plain.plain] S (fun x2 S1 =>
 K (.ret (.tup [])) S1) (kp K)
theorem e216 : (fun (P : Program) (a0 a1 : V) (S : St) (K : AE → St → Prop) => lvc P L216.c (retL L216.rs K) (frame0 [a0, a1]) S) = s216 := by kernel_rfl
theorem t216 (a0 a1 : V) (r : AE) (h : ∀ S, s216 Tryz.prog a0 a1 S fun e S' => e = r ∧ S' = S) : Thr Tryz.prog 216 [a0, a1] r :=
 Thr_of_lvc (L := L216) hm Tryz.func216 g216 c216 (Nat.le_of_ble_eq_true rfl) fun S => by have := h S; rw [← e216] at this; exact this
theorem u216 (a0 a1 : V) (S : St) (Q : AE → St → Prop) (h : WFS S → s216 Tryz.prog a0 a1 S.enter (ovr S Q)) : ACalls Tryz.prog 216 [a0, a1] S Q :=
 ACalls_of_lvc (L := L216) hm Tryz.func216 g216 c216 (Nat.le_of_ble_eq_true rfl) fun hw => by have := h hw; rw [← e216] at this; exact this
def L217 : LF := ⟨66,[.tmp 4],.seq (.reg [Lo 4 (.asg (.k (.sl true 4 [])))]) (.seq (.seq (.reg [Lo 8 (.mv (.t 0)),Lo 9 (.len (.t 8)),Lo 10 (.bin .lss (.t 9) (.k (.int .i64 2)))]) (.cond (.t 10) (.seq (.reg [Lo 11 (.asg (.t 0)),Lo 4 (.asg (.t 11))]) .ret) .skip)) (.seqj [0] (.seq (.reg [Lo 5 (.asg (.k (.int .i64 1)))]) (.block 0 (.loop [0,1,5] (.seq (.seq (.reg [Lo 12 (.mv (.t 5)),Lo 13 (.mv (.t 0)),Lo 14 (.len (.t 13)),Lo 15 (.bin .lss (.t 12) (.t 14))]) (.cond (.t 15) .skip (.exit 0))) (.seq (.block 1 (.seq (.draw [Lo 18 (.mv (.t 1)),Lo 19 (.mv (.t 0)),Lo 20 (.mv (.t 5)),Lo 21 (.ia 4 (.t 19) (.t 20)),Lo 22 (.ld 4 true (.t 21)),Lo 23 (.mv (.t 0)),Lo 24 (.mv (.t 5)),Lo 25 (.bin .sub (.t 24) (.k (.int .i64 1))),Lo 26 (.ia 4 (.t 23) (.t 25)),Lo 27 (.ld 4 true (.t 26))] [Lo 28 (.callv (.t 18) [.t 22,.t 27])]) (.cond (.t 28) (.seq (.reg [Lo 29 (.mv (.t 0)),Lo 30 (.mv (.t 5)),Lo 31 (.slc 4 (.t 29) (some (.t 30)) none none),Lo 6 (.asg (.t 31))]) (.seqj [0,5] (.seq (.reg [Lo 7 (.asg (.k (.int .i64 1)))]) (.block 2 (.loop [0,1,5,6,7] (.seq (.seq (.reg [Lo 32 (.mv (.t 7)),Lo 33 (.mv (.t 6)),Lo 34 (.len (.t 33)),Lo 35 (.bin .lss (.t 32) (.t 34))]) (.cond (.t 35) .skip (.exit 2))) (.seqj [0,1,5,6,7] (.block 3 (.seq (.draw [Lo 38 (.mv (.t 1)),Lo 39 (.mv (.t 6)),Lo 40 (.mv (.t 7)),Lo 41 (.ia 4 (.t 39) (.t 40)),Lo 42 (.ld 4 true (.t 41)),Lo 43 (.mv (.t 6)),Lo 44 (.mv (.t 7)),Lo 45 (.bin .sub (.t 44) (.k (.int .i64 1))),Lo 46 (.ia 4 (.t 43) (.t 45)),Lo 47 (.ld 4 true (.t 46))] [Lo 48 (.callv (.t 38) [.t 42,.t 47]),Lo 49 (.un .not (.t 48))]) (.cond (.t 49) (.seq (.reg [Lo 50 (.mv (.t 0)),Lo 51 (.mv (.t 5)),Lo 52 (.mv (.t 6)),Lo 53 (.mv (.t 7)),Lo 54 (.ia 4 (.t 52) (.t 53)),Lo 55 (.ld 4 true (.t 54)),Lo 56 (.ia 4 (.t 50) (.t 51)),.op ⟨none,.st 4 (.t 56) (.t 55),none⟩]) (.reg [Lo 57 (.mv (.t 5)),Lo 58 (.bin .add (.t 57) (.k (.int .i64 1))),Lo 5 (.asg (.t 58))])) .skip))) (.reg [Lo 36 (.mv (.t 7)),Lo 37 (.bin .add (.t 36) (.k (.int .i64 1))),Lo 7 (.asg (.t 37))])))))) (.seq (.reg [Lo 59 (.mv (.t 0)),Lo 60 (.mv (.t 5)),Lo 61 (.slc 4 (.t 59) (some (.t 60)) none none),.op ⟨none,.clr 4 (.agg [.int .i64 0,.int .i64 0,.str [],.sl true 4 []]) (.t 61),none⟩]) (.seq (.reg [Lo 62 (.mv (.t 0)),Lo 63 (.mv (.t 5)),Lo 64 (.slc 4 (.t 62) none (some (.t 63)) none),Lo 4 (.asg (.t 64))]) .ret)))) .skip))) (.reg [Lo 16 (.mv (.t 5)),Lo 17 (.bin .add (.t 16) (.k (.int .i64 1))),Lo 5 (.asg (.t 17))])))))) (.seq (.reg [Lo 65 (.asg (.t 0)),Lo 4 (.asg (.t 65))]) .ret)))⟩
theorem c217 : compFm Tryz.prog Tryz.f217 [1000000007] = some L217.er := by kernel_rfl
theorem g217 : isGo Tryz.prog 217 = true := by kernel_rfl
def s217 (P : Program) (a0 a1 : V) (S : St) (K : AE → St → Prop) : Prop :=
 bnd (opV S (.len (.k a0.plain.plain.plain))) fun x1 =>
 bnd (opV S (.bin .lss (.k x1.plain) (.k (.int .i64 2)))) fun x2 =>
 brV x2.plain
 (K (.ret a0.plain) S)
 (gjn (fun j3 : V → St → Prop =>
 loop3 (fun R5 w7 w8 w9 S2 =>
 bnd (opV S2 (.len (.k w7.plain.plain))) fun x10 =>
 bnd (opV S2 (.bin .lss (.k w9.plain.plain) (.k x10.plain))) fun x11 =>
 brV x11.plain
 (bnd (opV S2 (.ia 4 (.k w7.plain.plain) (.k w9.plain.plain))) fun x12 =>
 bnd (opV S2 (.ld 4 true (.k x12.plain))) fun x13 =>
 bnd (opV S2 (.bin .sub (.k w9.plain.plain) (.k (.int .i64 1)))) fun x14 =>
 bnd (opV S2 (.ia 4 (.k w7.plain.plain) (.k x14.plain))) fun x15 =>
 bnd (opV S2 (.ld 4 true (.k x15.plain))) fun x16 =>
 callvA P w8.plain.plain [x13.plain, x16.plain] S2 (fun x17 S3 =>
 brV x17.plain
 (bnd (opV S3 (.slc 4 (.k w7.plain.plain) (some (.k w9.plain.plain)) none none)) fun x18 =>
 gjn (fun j19 : V → V → St → Prop =>
 loop5 (fun R25 w27 w28 w29 w30 w31 S6 =>
 bnd (opV S6 (.len (.k w30.plain.plain))) fun x32 =>
 bnd (opV S6 (.bin .lss (.k w31.plain.plain) (.k x32.plain))) fun x33 =>
 brV x33.plain
 (gjn (fun j34 : V → V → V → V → V → St → Prop =>
 bnd (opV S6 (.ia 4 (.k w30.plain.plain) (.k w31.plain.plain))) fun x41 =>
 bnd (opV S6 (.ld 4 true (.k x41.plain))) fun x42 =>
 bnd (opV S6 (.bin .sub (.k w31.plain.plain) (.k (.int .i64 1)))) fun x43 =>
 bnd (opV S6 (.ia 4 (.k w30.plain.plain) (.k x43.plain))) fun x44 =>
 bnd (opV S6 (.ld 4 true (.k x44.plain))) fun x45 =>
 callvA P w28.plain.plain [x42.plain, x45.plain] S6 (fun x46 S8 =>
 bnd (opV S8 (.un .not (.k x46.plain))) fun x47 =>
 brV x47.plain
 (bnd (opV S8 (.ia 4 (.k w30.plain.plain) (.k w31.plain.plain))) fun x48 =>
 bnd (opV S8 (.ld 4 true (.k x48.plain))) fun x49 =>
 bnd (opV S8 (.ia 4 (.k w27.plain.plain) (.k w29.plain.plain))) fun x50 =>
 effA S8 (.st 4 (.k x50.plain) (.k x49.plain)) fun x51 S9 =>
 bnd (opV S9 (.bin .add (.k w29.plain.plain) (.k (.int .i64 1)))) fun x52 =>
 j34 w27 w28 x52 w30 w31 S9)
 (j34 w27 w28 w29 w30 w31 S8)) (kp K))
 (fun z35 z36 z37 z38 z39 S7 =>
 bnd (opV S7 (.bin .add (.k z39.plain.plain) (.k (.int .i64 1)))) fun x40 =>
 R25 z35 z36 z37 z38 x40 S7))
 (j19 w27 w29 S6))
 w7 w8 w9 x18 ((.int .i64 1)) S3)
 (fun z20 z21 S4 =>
 bnd (opV S4 (.slc 4 (.k z20.plain.plain) (some (.k z21.plain.plain)) none none)) fun x22 =>
 effA S4 (.clr 4 (.agg [.int .i64 0,.int .i64 0,.str [],.sl true 4 []]) (.k x22.plain)) fun x23 S5 =>
 bnd (opV S5 (.slc 4 (.k z20.plain.plain) none (some (.k z21.plain.plain)) none)) fun x24 =>
 K (.ret x24) S5))
 (bnd (opV S3 (.bin .add (.k w9.plain.plain) (.k (.int .i64 1)))) fun x53 =>
 R5 w7 w8 x53 S3)) (kp K))
 (j3 w7 S2))
 a0.plain a1.plain ((.int .i64 1)) S)
 (fun z4 S1 =>
 K (.ret z4) S1))
theorem e217 : (fun (P : Program) (a0 a1 : V) (S : St) (K : AE → St → Prop) => lvc P L217.c (retL L217.rs K) (frame0 [a0, a1]) S) = s217 := by kernel_rfl
theorem t217 (a0 a1 : V) (r : AE) (hr : ∀ p, r.refsB p) (h : ∀ S, s217 Tryz.prog a0 a1 S fun e S' => e = r ∧ Own S S') : Thr Tryz.prog 217 [a0, a1] r :=
 Thr_of_lvcB (L := L217) hm Tryz.func217 g217 c217 (Nat.le_of_ble_eq_true rfl) hr fun S => by have := h S; rw [← e217] at this; exact this
theorem u217 (a0 a1 : V) (S : St) (Q : AE → St → Prop) (h : WFS S → s217 Tryz.prog a0 a1 S.enter (ovr S Q)) : ACalls Tryz.prog 217 [a0, a1] S Q :=
 ACalls_of_lvc (L := L217) hm Tryz.func217 g217 c217 (Nat.le_of_ble_eq_true rfl) fun hw => by have := h hw; rw [← e217] at this; exact this
def L181 : LF := ⟨10,[.tmp 2],.seq (.reg [Lo 2 (.asg (.k (.sl true 4 [])))]) (.seq (.reg [Lo 4 (.mv (.t 0)),Lo 5 (.call 46 [.t 4]),Lo 3 (.asg (.t 5))]) (.seq (.reg [Lo 6 (.mv (.t 3)),Lo 7 (.call 216 [.t 6,.k (.fn 43 [])])]) (.seq (.reg [Lo 8 (.mv (.t 3)),Lo 9 (.call 217 [.t 8,.k (.fn 20 [])]),Lo 2 (.asg (.t 9))]) (.retF 2))))⟩
theorem c181 : compFm Tryz.prog Tryz.f181 [1000000007] = some L181.er := by kernel_rfl
theorem g181 : isGo Tryz.prog 181 = true := by kernel_rfl
def s181 (P : Program) (a0 : V) (S : St) (K : AE → St → Prop) : Prop :=
 callA P 46 [a0.plain.plain.plain] S (fun x1 S1 =>
 callA P 216 [x1.plain.plain, (.fn 43 [])] S1 (fun x2 S2 =>
 callA P 217 [x1.plain.plain, (.fn 20 [])] S2 (fun x3 S3 =>
 frzA x3 S3 fun f4 S4 =>
 K (.ret ((f4 x3))) S4) (kp K)) (kp K)) (kp K)
theorem e181 : (fun (P : Program) (a0 : V) (S : St) (K : AE → St → Prop) => lvc P L181.c (retL L181.rs K) (frame0 [a0]) S) = s181 := by kernel_rfl
theorem u181 (a0 : V) (S : St) (Q : AE → St → Prop) (h : WFS S → s181 Tryz.prog a0 S.enter (ovr S Q)) : ACalls Tryz.prog 181 [a0] S Q :=
 ACalls_of_lvc (L := L181) hm Tryz.func181 g181 c181 (Nat.le_of_ble_eq_true rfl) fun hw => by have := h hw; rw [← e181] at this; exact this
end Go.Pl.L

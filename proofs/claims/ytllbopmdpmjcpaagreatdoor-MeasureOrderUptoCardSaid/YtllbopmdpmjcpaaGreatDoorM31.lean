import Derived.Test.YtllbopmdpmjcpaaGreatDoorM30
set_option linter.unusedSimpArgs false
set_option linter.unusedVariables false
set_option linter.unusedSectionVars false
open Go Go.Pl Go.Proofs
namespace Go.Pl.L
set_option linter.all false
def L57 : LF := ⟨107,[.tmp 2],.seq (.reg [Lo 2 (.asg (.k (.bool false)))]) (.seq (.seq (.reg [Lo 10 (.mv (.t 0)),Lo 11 (.len (.t 10)),Lo 12 (.bin .lss (.t 11) (.k (.int .i64 2))),Lo 13 (.mv (.t 12)),.grj 13 false [14,15,16,17,18] [Ro 14 (.mv (.t 0)),Ro 15 (.ia 4 (.t 14) (.k (.int .i64 0))),Ro 16 (.fa 0 1 false (.t 15)),Ro 17 (.ld 1 false (.t 16)),Ro 18 (.bin .neq (.t 17) (.k (.int .i64 3)))],Lo 19 (.pick (.t 13) (.k (.bool true)) (.t 18)),Lo 20 (.mv (.t 19)),.grj 20 false [21,22,23,24,25] [Ro 21 (.mv (.t 0)),Ro 22 (.ia 4 (.t 21) (.k (.int .i64 1))),Ro 23 (.ld 4 true (.t 22)),Ro 24 (.call 89 [.t 23]),Ro 25 (.bin .neq (.t 24) (.k (.int .i64 0)))],Lo 26 (.pick (.t 20) (.k (.bool true)) (.t 25))]) (.cond (.t 26) (.seq (.reg [Lo 2 (.asg (.k (.bool false)))]) .ret) .skip)) (.seq (.reg [Lo 27 (.mmk),Lo 3 (.asg (.t 27))]) (.seqj [0] (.seq (.reg [Lo 28 (.mv (.t 0)),Lo 29 (.ia 4 (.t 28) (.k (.int .i64 0))),Lo 30 (.fa 3 1 false (.t 29)),Lo 31 (.ld 1 false (.t 30)),Lo 32 (.len (.t 31)),Lo 33 (.mv (.k (.int .i64 0)))]) (.block 0 (.loop [0,3,31,32,33] (.seq (.reg [Lo 34 (.bin .lss (.t 33) (.t 32))]) (.seq (.cond (.t 34) .skip (.exit 0)) (.seq (.block 1 (.seq (.reg [Lo 35 (.ia 4 (.t 31) (.t 33)),Lo 36 (.ld 4 true (.t 35)),Lo 5 (.boxs 4 (.t 36))]) (.seq (.seq (.reg [Lo 37 (.fa 0 1 false (.t 5)),Lo 38 (.ld 1 false (.t 37)),Lo 39 (.bin .neq (.t 38) (.k (.int .i64 1))),Lo 40 (.mv (.t 39)),.grj 40 false [41,42,43,44] [Ro 41 (.fa 2 1 false (.t 5)),Ro 42 (.ld 1 false (.t 41)),Ro 43 (.call 56 [.t 42]),Ro 44 (.un .not (.t 43))],Lo 45 (.pick (.t 40) (.k (.bool true)) (.t 44)),Lo 46 (.mv (.t 45)),.grj 46 false [47,48,49,50] [Ro 47 (.mv (.t 3)),Ro 48 (.fa 2 1 false (.t 5)),Ro 49 (.ld 1 false (.t 48)),Ro 50 (.mlk true false (.bool false) (.t 47) (.t 49))],Lo 51 (.pick (.t 46) (.k (.bool true)) (.t 50))]) (.cond (.t 51) (.seq (.reg [Lo 2 (.asg (.k (.bool false)))]) .ret) .skip)) (.reg [Lo 52 (.mv (.t 3)),Lo 53 (.fa 2 1 false (.t 5)),Lo 54 (.ld 1 false (.t 53)),.op ⟨none,.mup true (.t 52) (.t 54) (.k (.bool true)),none⟩])))) (.reg [Lo 55 (.bin .add (.t 33) (.k (.int .i64 1))),Lo 33 (.mv (.t 55))]))))))) (.seq (.reg [Lo 6 (.asg (.k (.str [])))]) (.seqj [] (.seq (.reg [Lo 56 (.mv (.t 0)),Lo 57 (.slc 4 (.t 56) (some (.k (.int .i64 2))) none none),Lo 58 (.len (.t 57)),Lo 59 (.mv (.k (.int .i64 0)))]) (.block 2 (.loop [6,57,58,59] (.seq (.reg [Lo 60 (.bin .lss (.t 59) (.t 58))]) (.seq (.cond (.t 60) .skip (.exit 2)) (.seq (.block 3 (.seq (.reg [Lo 61 (.ia 4 (.t 57) (.t 59)),Lo 62 (.ld 4 true (.t 61)),Lo 8 (.boxs 4 (.t 62))]) (.seq (.seq (.reg [Lo 63 (.fa 0 1 false (.t 8)),Lo 64 (.ld 1 false (.t 63)),Lo 65 (.bin .neq (.t 64) (.k (.int .i64 3))),Lo 66 (.mv (.t 65)),.grj 66 false [67,68,69,70] [Ro 67 (.fa 3 1 false (.t 8)),Ro 68 (.ld 1 false (.t 67)),Ro 69 (.len (.t 68)),Ro 70 (.bin .neq (.t 69) (.k (.int .i64 2)))],Lo 71 (.pick (.t 66) (.k (.bool true)) (.t 70)),Lo 72 (.mv (.t 71)),.grj 72 false [73,74,75,76,77,78] [Ro 73 (.fa 3 1 false (.t 8)),Ro 74 (.ld 1 false (.t 73)),Ro 75 (.ia 4 (.t 74) (.k (.int .i64 0))),Ro 76 (.fa 0 1 false (.t 75)),Ro 77 (.ld 1 false (.t 76)),Ro 78 (.bin .neq (.t 77) (.k (.int .i64 1)))],Lo 79 (.pick (.t 72) (.k (.bool true)) (.t 78)),Lo 80 (.mv (.t 79)),.grj 80 false [81,82,83,84,85,86] [Ro 81 (.fa 3 1 false (.t 8)),Ro 82 (.ld 1 false (.t 81)),Ro 83 (.ia 4 (.t 82) (.k (.int .i64 1))),Ro 84 (.ld 4 true (.t 83)),Ro 85 (.call 27 [.t 84]),Ro 86 (.un .not (.t 85))],Lo 87 (.pick (.t 80) (.k (.bool true)) (.t 86))]) (.cond (.t 87) (.seq (.reg [Lo 2 (.asg (.k (.bool false)))]) .ret) .skip)) (.seq (.reg [Lo 88 (.fa 3 1 false (.t 8)),Lo 89 (.ld 1 false (.t 88)),Lo 90 (.ia 4 (.t 89) (.k (.int .i64 0))),Lo 91 (.fa 2 1 false (.t 90)),Lo 92 (.ld 1 false (.t 91)),Lo 9 (.asg (.t 92))]) (.seq (.seq (.reg [Lo 93 (.mv (.t 9)),Lo 94 (.call 56 [.t 93]),Lo 95 (.un .not (.t 94)),Lo 96 (.mv (.t 95)),.grj 96 true [97,98] [Ro 97 (.mv (.t 9)),Ro 98 (.bin .neq (.t 97) (.k (.str [116,104,105,115])))],Lo 99 (.pick (.t 96) (.t 98) (.k (.bool false))),Lo 100 (.mv (.t 99)),.grj 100 false [101,102,103] [Ro 101 (.mv (.t 9)),Ro 102 (.mv (.t 6)),Ro 103 (.bin .leq (.t 101) (.t 102))],Lo 104 (.pick (.t 100) (.k (.bool true)) (.t 103))]) (.cond (.t 104) (.seq (.reg [Lo 2 (.asg (.k (.bool false)))]) .ret) .skip)) (.reg [Lo 105 (.mv (.t 9)),Lo 6 (.asg (.t 105))])))))) (.reg [Lo 106 (.bin .add (.t 59) (.k (.int .i64 1))),Lo 59 (.mv (.t 106))]))))))) (.seq (.reg [Lo 2 (.asg (.k (.bool true)))]) .ret))))))⟩
theorem c57 : compFm Tryz.prog Tryz.f57 [1000000007] = some L57.er := by kernel_rfl
theorem g57 : isGo Tryz.prog 57 = true := by kernel_rfl
def s57 (P : Program) (a0 : V) (S : St) (K : AE → St → Prop) : Prop :=
 bnd (opV S (.len (.k a0.plain.plain.plain))) fun x1 =>
 bnd (opV S (.bin .lss (.k x1.plain) (.k (.int .i64 2)))) fun x2 =>
 gjn (fun j8 : V → V → V → V → V → St → Prop =>
 gdV x2.plain false
 (bnd (opV S (.ia 4 (.k a0.plain.plain.plain) (.k (.int .i64 0)))) fun x177 =>
 bnd (opV S (.fa 0 1 false (.k x177.plain))) fun x178 =>
 bnd (opV S (.ld 1 false (.k x178.plain))) fun x179 =>
 bnd (opV S (.bin .neq (.k x179.plain) (.k (.int .i64 3)))) fun x180 =>
 j8 a0.plain.plain x177 x178 x179 x180 S)
 (j8 V.undef V.undef V.undef V.undef V.undef S))
 (fun y9 y10 y11 y12 y13 S2 =>
 bnd (opV S2 (.pick (.k x2.plain.plain) (.k (.bool true)) (.k y13.plain))) fun x14 =>
 gjn (fun j20 : V → V → V → V → V → St → Prop =>
 gdV x14.plain false
 (bnd (opV S2 (.ia 4 (.k a0.plain.plain.plain) (.k (.int .i64 1)))) fun x173 =>
 bnd (opV S2 (.ld 4 true (.k x173.plain))) fun x174 =>
 callA P 89 [x174.plain] S2 (fun x175 S30 =>
 bnd (opV S30 (.bin .neq (.k x175.plain) (.k (.int .i64 0)))) fun x176 =>
 j20 a0.plain.plain x173 x174 x175 x176 S30) (kp K))
 (j20 V.undef V.undef V.undef V.undef V.undef S2))
 (fun y21 y22 y23 y24 y25 S4 =>
 bnd (opV S4 (.pick (.k x14.plain.plain) (.k (.bool true)) (.k y25.plain))) fun x26 =>
 brV x26.plain
 (K (.ret ((.bool false))) S4)
 (effA S4 .mmk fun x27 S5 =>
 gjn (fun j28 : V → St → Prop =>
 bnd (opV S5 (.ia 4 (.k a0.plain.plain.plain) (.k (.int .i64 0)))) fun x124 =>
 bnd (opV S5 (.fa 3 1 false (.k x124.plain))) fun x125 =>
 bnd (opV S5 (.ld 1 false (.k x125.plain))) fun x126 =>
 bnd (opV S5 (.len (.k x126.plain))) fun x127 =>
 loop5 (fun R128 w130 w131 w132 w133 w134 S22 =>
 bnd (opV S22 (.bin .lss (.k w134.plain) (.k w133.plain))) fun x135 =>
 brV x135.plain
 (bnd (opV S22 (.ia 4 (.k w132.plain) (.k w134.plain))) fun x136 =>
 bnd (opV S22 (.ld 4 true (.k x136.plain))) fun x137 =>
 effA S22 (.boxs 4 (.k x137.plain)) fun x138 S23 =>
 bnd (opV S23 (.fa 0 1 false (.k x138.plain))) fun x139 =>
 bnd (opV S23 (.ld 1 false (.k x139.plain))) fun x140 =>
 bnd (opV S23 (.bin .neq (.k x140.plain) (.k (.int .i64 1)))) fun x141 =>
 gjn (fun j146 : V → V → V → V → St → Prop =>
 gdV x141.plain false
 (bnd (opV S23 (.fa 2 1 false (.k x138.plain))) fun x169 =>
 bnd (opV S23 (.ld 1 false (.k x169.plain))) fun x170 =>
 callA P 56 [x170.plain] S23 (fun x171 S29 =>
 bnd (opV S29 (.un .not (.k x171.plain))) fun x172 =>
 j146 x169 x170 x171 x172 S29) (kp K))
 (j146 V.undef V.undef V.undef V.undef S23))
 (fun y147 y148 y149 y150 S25 =>
 bnd (opV S25 (.pick (.k x141.plain.plain) (.k (.bool true)) (.k y150.plain))) fun x151 =>
 gjn (fun j156 : V → V → V → V → St → Prop =>
 gdV x151.plain false
 (bnd (opV S25 (.fa 2 1 false (.k x138.plain))) fun x166 =>
 bnd (opV S25 (.ld 1 false (.k x166.plain))) fun x167 =>
 bnd (opV S25 (.mlk true false (.bool false) (.k w131.plain.plain) (.k x167.plain))) fun x168 =>
 j156 w131.plain x166 x167 x168 S25)
 (j156 V.undef V.undef V.undef V.undef S25))
 (fun y157 y158 y159 y160 S27 =>
 bnd (opV S27 (.pick (.k x151.plain.plain) (.k (.bool true)) (.k y160.plain))) fun x161 =>
 brV x161.plain
 (K (.ret ((.bool false))) S27)
 (bnd (opV S27 (.fa 2 1 false (.k x138.plain))) fun x162 =>
 bnd (opV S27 (.ld 1 false (.k x162.plain))) fun x163 =>
 effA S27 (.mup true (.k w131.plain.plain) (.k x163.plain) (.k (.bool true))) fun x164 S28 =>
 bnd (opV S28 (.bin .add (.k w134.plain) (.k (.int .i64 1)))) fun x165 =>
 R128 w130 w131 w132 w133 x165.plain S28))))
 (j28 w130 S22))
 a0.plain x27 x126 x127 ((.int .i64 0)) S5)
 (fun z29 S6 =>
 gjn (fun j30 : St → Prop =>
 bnd (opV S6 (.slc 4 (.k z29.plain.plain) (some (.k (.int .i64 2))) none none)) fun x31 =>
 bnd (opV S6 (.len (.k x31.plain))) fun x32 =>
 loop4 (fun R33 w35 w36 w37 w38 S8 =>
 bnd (opV S8 (.bin .lss (.k w38.plain) (.k w37.plain))) fun x39 =>
 brV x39.plain
 (bnd (opV S8 (.ia 4 (.k w36.plain) (.k w38.plain))) fun x40 =>
 bnd (opV S8 (.ld 4 true (.k x40.plain))) fun x41 =>
 effA S8 (.boxs 4 (.k x41.plain)) fun x42 S9 =>
 bnd (opV S9 (.fa 0 1 false (.k x42.plain))) fun x43 =>
 bnd (opV S9 (.ld 1 false (.k x43.plain))) fun x44 =>
 bnd (opV S9 (.bin .neq (.k x44.plain) (.k (.int .i64 3)))) fun x45 =>
 gjn (fun j50 : V → V → V → V → St → Prop =>
 gdV x45.plain false
 (bnd (opV S9 (.fa 3 1 false (.k x42.plain))) fun x120 =>
 bnd (opV S9 (.ld 1 false (.k x120.plain))) fun x121 =>
 bnd (opV S9 (.len (.k x121.plain))) fun x122 =>
 bnd (opV S9 (.bin .neq (.k x122.plain) (.k (.int .i64 2)))) fun x123 =>
 j50 x120 x121 x122 x123 S9)
 (j50 V.undef V.undef V.undef V.undef S9))
 (fun y51 y52 y53 y54 S11 =>
 bnd (opV S11 (.pick (.k x45.plain.plain) (.k (.bool true)) (.k y54.plain))) fun x55 =>
 gjn (fun j62 : V → V → V → V → V → V → St → Prop =>
 gdV x55.plain false
 (bnd (opV S11 (.fa 3 1 false (.k x42.plain))) fun x114 =>
 bnd (opV S11 (.ld 1 false (.k x114.plain))) fun x115 =>
 bnd (opV S11 (.ia 4 (.k x115.plain) (.k (.int .i64 0)))) fun x116 =>
 bnd (opV S11 (.fa 0 1 false (.k x116.plain))) fun x117 =>
 bnd (opV S11 (.ld 1 false (.k x117.plain))) fun x118 =>
 bnd (opV S11 (.bin .neq (.k x118.plain) (.k (.int .i64 1)))) fun x119 =>
 j62 x114 x115 x116 x117 x118 x119 S11)
 (j62 V.undef V.undef V.undef V.undef V.undef V.undef S11))
 (fun y63 y64 y65 y66 y67 y68 S13 =>
 bnd (opV S13 (.pick (.k x55.plain.plain) (.k (.bool true)) (.k y68.plain))) fun x69 =>
 gjn (fun j76 : V → V → V → V → V → V → St → Prop =>
 gdV x69.plain false
 (bnd (opV S13 (.fa 3 1 false (.k x42.plain))) fun x108 =>
 bnd (opV S13 (.ld 1 false (.k x108.plain))) fun x109 =>
 bnd (opV S13 (.ia 4 (.k x109.plain) (.k (.int .i64 1)))) fun x110 =>
 bnd (opV S13 (.ld 4 true (.k x110.plain))) fun x111 =>
 callA P 27 [x111.plain] S13 (fun x112 S21 =>
 bnd (opV S21 (.un .not (.k x112.plain))) fun x113 =>
 j76 x108 x109 x110 x111 x112 x113 S21) (kp K))
 (j76 V.undef V.undef V.undef V.undef V.undef V.undef S13))
 (fun y77 y78 y79 y80 y81 y82 S15 =>
 bnd (opV S15 (.pick (.k x69.plain.plain) (.k (.bool true)) (.k y82.plain))) fun x83 =>
 brV x83.plain
 (K (.ret ((.bool false))) S15)
 (bnd (opV S15 (.fa 3 1 false (.k x42.plain))) fun x84 =>
 bnd (opV S15 (.ld 1 false (.k x84.plain))) fun x85 =>
 bnd (opV S15 (.ia 4 (.k x85.plain) (.k (.int .i64 0)))) fun x86 =>
 bnd (opV S15 (.fa 2 1 false (.k x86.plain))) fun x87 =>
 bnd (opV S15 (.ld 1 false (.k x87.plain))) fun x88 =>
 callA P 56 [x88.plain.plain] S15 (fun x89 S16 =>
 bnd (opV S16 (.un .not (.k x89.plain))) fun x90 =>
 gjn (fun j93 : V → V → St → Prop =>
 gdV x90.plain true
 (bnd (opV S16 (.bin .neq (.k x88.plain.plain) (.k (.str [116, 104, 105, 115])))) fun x107 =>
 j93 x88.plain x107 S16)
 (j93 V.undef V.undef S16))
 (fun y94 y95 S18 =>
 bnd (opV S18 (.pick (.k x90.plain.plain) (.k y95.plain) (.k (.bool false)))) fun x96 =>
 gjn (fun j100 : V → V → V → St → Prop =>
 gdV x96.plain false
 (bnd (opV S18 (.bin .leq (.k x88.plain.plain) (.k w35.plain.plain))) fun x106 =>
 j100 x88.plain w35.plain x106 S18)
 (j100 V.undef V.undef V.undef S18))
 (fun y101 y102 y103 S20 =>
 bnd (opV S20 (.pick (.k x96.plain.plain) (.k (.bool true)) (.k y103.plain))) fun x104 =>
 brV x104.plain
 (K (.ret ((.bool false))) S20)
 (bnd (opV S20 (.bin .add (.k w38.plain) (.k (.int .i64 1)))) fun x105 =>
 R33 x88.plain w36 w37 x105.plain S20)))) (kp K))))))
 (j30 S8))
 ((.str [])) x31 x32 ((.int .i64 0)) S6)
 (fun S7 =>
 K (.ret ((.bool true))) S7)))))
theorem e57 : (fun (P : Program) (a0 : V) (S : St) (K : AE → St → Prop) => lvc P L57.c (retL L57.rs K) (frame0 [a0]) S) = s57 := by kernel_rfl
theorem t57 (a0 : V) (r : AE) (hr : ∀ p, r.refsB p) (h : ∀ S, s57 Tryz.prog a0 S fun e S' => e = r ∧ Own S S') : Thr Tryz.prog 57 [a0] r :=
 Thr_of_lvcB (L := L57) hm Tryz.func57 g57 c57 (Nat.le_of_ble_eq_true rfl) hr fun S => by have := h S; rw [← e57] at this; exact this
def L32 : LF := ⟨27,[.tmp 4],.seq (.reg [Lo 2 (.boxr (.t 0)),Lo 3 (.boxr (.t 1)),Lo 4 (.asg (.k (.bool false)))]) (.seq (.reg [Lo 8 (.ld 4 true (.t 3)),Lo 9 (.ld 4 true (.t 2)),Lo 10 (.mks 24 4 [.t 8,.t 9]),Lo 11 (.call 64 [.k (.str [109,101,101,116]),.t 10]),Lo 7 (.mv (.t 11)),Lo 12 (.ext (.t 7) 0),Lo 13 (.ext (.t 7) 1),Lo 5 (.boxs 4 (.t 12)),Lo 6 (.asg (.t 13))]) (.seq (.reg [Lo 14 (.mv (.t 6)),Lo 15 (.bin .eql (.t 14) (.k (.int .i64 0))),Lo 16 (.mv (.t 15)),.grj 16 true [17,18,19] [Ro 17 (.ld 4 true (.t 5)),Ro 18 (.ld 4 true (.t 2)),Ro 19 (.call 20 [.t 17,.t 18])],Lo 20 (.pick (.t 16) (.t 19) (.k (.bool false))),Lo 21 (.mv (.t 20)),.grj 21 true [22,23,24,25] [Ro 22 (.ld 4 true (.t 3)),Ro 23 (.ld 4 true (.t 2)),Ro 24 (.call 20 [.t 22,.t 23]),Ro 25 (.un .not (.t 24))],Lo 26 (.pick (.t 21) (.t 25) (.k (.bool false))),Lo 4 (.asg (.t 26))]) .ret))⟩
theorem c32 : compFm Tryz.prog Tryz.f32 [1000000007] = some L32.er := by kernel_rfl
theorem g32 : isGo Tryz.prog 32 = true := by kernel_rfl
def s32 (P : Program) (a0 a1 : V) (S : St) (K : AE → St → Prop) : Prop :=
 effA S (.boxr (.k a0.plain.plain)) fun x1 S1 =>
 effA S1 (.boxr (.k a1.plain.plain)) fun x2 S2 =>
 bnd (opV S2 (.ld 4 true (.k x2.plain))) fun x3 =>
 bnd (opV S2 (.ld 4 true (.k x1.plain))) fun x4 =>
 effA S2 (.mks 24 4 [(.k x3.plain), (.k x4.plain)]) fun x5 S3 =>
 callA P 64 [(.str [109, 101, 101, 116]), x5.plain] S3 (fun x6 S4 =>
 bnd (opV S4 (.ext (.k x6.plain.plain) 0)) fun x7 =>
 bnd (opV S4 (.ext (.k x6.plain.plain) 1)) fun x8 =>
 effA S4 (.boxs 4 (.k x7.plain)) fun x9 S5 =>
 bnd (opV S5 (.bin .eql (.k x8.plain.plain) (.k (.int .i64 0)))) fun x10 =>
 gjn (fun j14 : V → V → V → St → Prop =>
 gdV x10.plain true
 (bnd (opV S5 (.ld 4 true (.k x9.plain))) fun x33 =>
 bnd (opV S5 (.ld 4 true (.k x1.plain))) fun x34 =>
 callA P 20 [x33.plain, x34.plain] S5 (fun x35 S11 =>
 j14 x33 x34 x35 S11) (kp K))
 (j14 V.undef V.undef V.undef S5))
 (fun y15 y16 y17 S7 =>
 bnd (opV S7 (.pick (.k x10.plain.plain) (.k y17.plain) (.k (.bool false)))) fun x18 =>
 gjn (fun j23 : V → V → V → V → St → Prop =>
 gdV x18.plain true
 (bnd (opV S7 (.ld 4 true (.k x2.plain))) fun x29 =>
 bnd (opV S7 (.ld 4 true (.k x1.plain))) fun x30 =>
 callA P 20 [x29.plain, x30.plain] S7 (fun x31 S10 =>
 bnd (opV S10 (.un .not (.k x31.plain))) fun x32 =>
 j23 x29 x30 x31 x32 S10) (kp K))
 (j23 V.undef V.undef V.undef V.undef S7))
 (fun y24 y25 y26 y27 S9 =>
 bnd (opV S9 (.pick (.k x18.plain.plain) (.k y27.plain) (.k (.bool false)))) fun x28 =>
 K (.ret x28) S9))) (kp K)
theorem e32 : (fun (P : Program) (a0 a1 : V) (S : St) (K : AE → St → Prop) => lvc P L32.c (retL L32.rs K) (frame0 [a0, a1]) S) = s32 := by kernel_rfl
theorem t32 (a0 a1 : V) (r : AE) (h : ∀ S, s32 Tryz.prog a0 a1 S fun e S' => e = r ∧ S' = S) : Thr Tryz.prog 32 [a0, a1] r :=
 Thr_of_lvc (L := L32) hm Tryz.func32 g32 c32 (Nat.le_of_ble_eq_true rfl) fun S => by have := h S; rw [← e32] at this; exact this
def L64 : LF := ⟨13,[.cell 4 4 true,.tmp 5],.seq (.reg [Lo 2 (.boxr (.t 0)),Lo 3 (.boxr (.t 1)),Lo 4 (.new (.agg [.int .i64 0,.int .i64 0,.str [],.sl true 4 []])),Lo 5 (.asg (.k (.int .i64 0)))]) (.seq (.seq (.reg [Lo 6 (.ld 1 false (.t 3)),Lo 7 (.call 19 [.t 6,.k (.fn 90 [])])]) (.cond (.t 7) (.seq (.reg [Lo 8 (.mk [.int .i64 0,.int .i64 0,.str [],.sl true 4 []] []),.op ⟨none,.st 4 (.t 4) (.t 8),none⟩,Lo 5 (.asg (.k (.int .i64 1)))]) .ret) .skip)) (.seq (.reg [Lo 9 (.fun_ 92 [.t 2,.t 3]),Lo 10 (.call 91 [.t 9]),Lo 11 (.ext (.t 10) 0),Lo 12 (.ext (.t 10) 1),.op ⟨none,.st 4 (.t 4) (.t 11),none⟩,Lo 5 (.asg (.t 12))]) .ret))⟩
theorem c64 : compFm Tryz.prog Tryz.f64 [1000000010, 1000000011] = some L64.er := by kernel_rfl
theorem g64 : isGo Tryz.prog 64 = true := by kernel_rfl
def s64 (P : Program) (a0 a1 : V) (S : St) (K : AE → St → Prop) : Prop :=
 effA S (.boxr (.k a0.plain.plain)) fun x1 S1 =>
 effA S1 (.boxr (.k a1.plain.plain)) fun x2 S2 =>
 effA S2 (.new (.agg [.int .i64 0,.int .i64 0,.str [],.sl true 4 []])) fun x3 S3 =>
 bnd (opV S3 (.ld 1 false (.k x2.plain))) fun x4 =>
 callA P 19 [x4.plain, (.fn 90 [])] S3 (fun x5 S4 =>
 brV x5.plain
 (bnd (opV S4 (.mk [.int .i64 0,.int .i64 0,.str [],.sl true 4 []] [])) fun x6 =>
 effA S4 (.st 4 (.k x3.plain) (.k x6.plain)) fun x7 S5 =>
 bnd (opV S5 (.ld 4 true (.k x3.plain))) fun x8 => K (.ret (.tup [x8, (.int .i64 1)])) S5)
 (callA P 91 [(.fn 92 [x1.plain, x2.plain])] S4 (fun x9 S6 =>
 bnd (opV S6 (.ext (.k x9.plain) 0)) fun x10 =>
 bnd (opV S6 (.ext (.k x9.plain) 1)) fun x11 =>
 effA S6 (.st 4 (.k x3.plain) (.k x10.plain)) fun x12 S7 =>
 bnd (opV S7 (.ld 4 true (.k x3.plain))) fun x13 => K (.ret (.tup [x13, x11.plain])) S7) (kp K))) (kp K)
theorem e64 : (fun (P : Program) (a0 a1 : V) (S : St) (K : AE → St → Prop) => lvc P L64.c (retL L64.rs K) (frame0 [a0, a1]) S) = s64 := by kernel_rfl
theorem t64 (a0 a1 : V) (r : AE) (hr : ∀ p, r.refsB p) (h : ∀ S, s64 Tryz.prog a0 a1 S fun e S' => e = r ∧ Own S S') : Thr Tryz.prog 64 [a0, a1] r :=
 Thr_of_lvcB (L := L64) hm Tryz.func64 g64 c64 (Nat.le_of_ble_eq_true rfl) hr fun S => by have := h S; rw [← e64] at this; exact this
def L90 : LF := ⟨6,[.tmp 2],.seq (.reg [Lo 1 (.boxr (.t 0)),Lo 2 (.asg (.k (.bool false)))]) (.seq (.reg [Lo 3 (.ld 4 true (.t 1)),Lo 4 (.call 14 [.t 3]),Lo 5 (.un .not (.t 4)),Lo 2 (.asg (.t 5))]) .ret)⟩
theorem c90 : compFm Tryz.prog Tryz.f90 [1000000007] = some L90.er := by kernel_rfl
theorem g90 : isGo Tryz.prog 90 = true := by kernel_rfl
def s90 (P : Program) (a0 : V) (S : St) (K : AE → St → Prop) : Prop :=
 effA S (.boxr (.k a0.plain.plain)) fun x1 S1 =>
 bnd (opV S1 (.ld 4 true (.k x1.plain))) fun x2 =>
 callA P 14 [x2.plain] S1 (fun x3 S2 =>
 bnd (opV S2 (.un .not (.k x3.plain))) fun x4 =>
 K (.ret x4) S2) (kp K)
theorem e90 : (fun (P : Program) (a0 : V) (S : St) (K : AE → St → Prop) => lvc P L90.c (retL L90.rs K) (frame0 [a0]) S) = s90 := by kernel_rfl
theorem t90 (a0 : V) (r : AE) (h : ∀ S, s90 Tryz.prog a0 S fun e S' => e = r ∧ S' = S) : Thr Tryz.prog 90 [a0] r :=
 Thr_of_lvc (L := L90) hm Tryz.func90 g90 c90 (Nat.le_of_ble_eq_true rfl) fun S => by have := h S; rw [← e90] at this; exact this
def L92 : LF := ⟨6,[.cell 2 4 true],.seq (.reg [Lo 2 (.new (.agg [.int .i64 0,.int .i64 0,.str [],.sl true 4 []]))]) (.seq (.reg [Lo 3 (.ld 1 false (.t 0)),Lo 4 (.ld 1 false (.t 1)),Lo 5 (.call 93 [.t 3,.t 4]),.op ⟨none,.st 4 (.t 2) (.t 5),none⟩]) .ret)⟩
theorem c92 : compFm Tryz.prog Tryz.f92 [] = some L92.er := by kernel_rfl
theorem g92 : isGo Tryz.prog 92 = true := by kernel_rfl
def s92 (P : Program) (a0 a1 : V) (S : St) (K : AE → St → Prop) : Prop :=
 effA S (.new (.agg [.int .i64 0,.int .i64 0,.str [],.sl true 4 []])) fun x1 S1 =>
 bnd (opV S1 (.ld 1 false (.k a0.plain.plain))) fun x2 =>
 bnd (opV S1 (.ld 1 false (.k a1.plain.plain))) fun x3 =>
 callA P 93 [x2.plain, x3.plain] S1 (fun x4 S2 =>
 effA S2 (.st 4 (.k x1.plain) (.k x4.plain)) fun x5 S3 =>
 bnd (opV S3 (.ld 4 true (.k x1.plain))) fun x6 => K (.ret x6) S3) (kp K)
theorem e92 : (fun (P : Program) (a0 a1 : V) (S : St) (K : AE → St → Prop) => lvc P L92.c (retL L92.rs K) (frame0 [a0, a1]) S) = s92 := by kernel_rfl
theorem t92 (a0 a1 : V) (r : AE) (hr : ∀ p, r.refsB p) (h : ∀ S, s92 Tryz.prog a0 a1 S fun e S' => e = r ∧ Own S S') : Thr Tryz.prog 92 [a0, a1] r :=
 Thr_of_lvcB (L := L92) hm Tryz.func92 g92 c92 (Nat.le_of_ble_eq_true rfl) hr fun S => by have := h S; rw [← e92] at this; exact this
def L93 : LF := ⟨132,[.cell 4 4 true],.seq (.reg [Lo 4 (.new (.agg [.int .i64 0,.int .i64 0,.str [],.sl true 4 []]))]) (.seq (.seq (.reg [Lo 12 (.mv (.t 0))]) (.block 0 (.seqj [0,1,4,12,13] (.seq (.reg [Lo 14 (.bin .eql (.t 12) (.k (.str [43]))),Lo 13 (.asg (.t 14))]) (.cond (.t 13) .skip (.seq (.reg [Lo 15 (.bin .eql (.t 12) (.k (.str [45]))),Lo 13 (.asg (.t 15))]) (.cond (.t 13) .skip (.seq (.reg [Lo 16 (.bin .eql (.t 12) (.k (.str [42]))),Lo 13 (.asg (.t 16))]) (.cond (.t 13) .skip (.seq (.reg [Lo 17 (.bin .eql (.t 12) (.k (.str [100,105,118]))),Lo 13 (.asg (.t 17))]) (.cond (.t 13) .skip (.seq (.reg [Lo 18 (.bin .eql (.t 12) (.k (.str [109,111,100]))),Lo 13 (.asg (.t 18))]) (.cond (.t 13) .skip (.seq (.reg [Lo 19 (.bin .eql (.t 12) (.k (.str [60]))),Lo 13 (.asg (.t 19))]) (.cond (.t 13) .skip (.reg [Lo 20 (.bin .eql (.t 12) (.k (.str [60,61]))),Lo 13 (.asg (.t 20))]))))))))))))) (.cond (.t 13) (.seq (.reg [Lo 21 (.mv (.t 1)),Lo 22 (.call 114 [.t 21,.k (.int .i64 2)]),Lo 5 (.asg (.t 22))]) (.seq (.draw [Lo 23 (.mv (.t 0)),Lo 24 (.mv (.t 5)),Lo 25 (.ia 1 (.t 24) (.k (.int .i64 0))),Lo 26 (.ld 1 false (.t 25)),Lo 27 (.mv (.t 5)),Lo 28 (.ia 1 (.t 27) (.k (.int .i64 1))),Lo 29 (.ld 1 false (.t 28))] [Lo 30 (.call 115 [.t 23,.t 26,.t 29]),.op ⟨none,.st 4 (.t 4) (.t 30),none⟩]) .ret)) (.seq (.reg [Lo 32 (.bin .eql (.t 12) (.k (.str [110,101,103]))),Lo 31 (.asg (.t 32))]) (.cond (.t 31) (.seq (.reg [Lo 33 (.mv (.t 1)),Lo 34 (.call 114 [.t 33,.k (.int .i64 1)]),Lo 35 (.ia 1 (.t 34) (.k (.int .i64 0))),Lo 36 (.ld 1 false (.t 35)),Lo 37 (.un .neg (.t 36)),Lo 38 (.call 116 [.t 37]),.op ⟨none,.st 4 (.t 4) (.t 38),none⟩]) .ret) (.seq (.reg [Lo 40 (.bin .eql (.t 12) (.k (.str [61]))),Lo 39 (.asg (.t 40))]) (.cond (.t 39) (.seq (.reg [Lo 41 (.mv (.t 1)),Lo 42 (.len (.t 41)),Lo 43 (.bin .eql (.t 42) (.k (.int .i64 2))),Lo 44 (.call 117 [.t 43])]) (.seq (.draw [Lo 45 (.mv (.t 1)),Lo 46 (.ia 4 (.t 45) (.k (.int .i64 0))),Lo 47 (.ld 4 true (.t 46)),Lo 48 (.mv (.t 1)),Lo 49 (.ia 4 (.t 48) (.k (.int .i64 1))),Lo 50 (.ld 4 true (.t 49))] [Lo 51 (.call 20 [.t 47,.t 50]),Lo 52 (.call 118 [.t 51]),.op ⟨none,.st 4 (.t 4) (.t 52),none⟩]) .ret)) (.seq (.reg [Lo 54 (.bin .eql (.t 12) (.k (.str [110,111,116]))),Lo 53 (.asg (.t 54))]) (.cond (.t 53) (.seq (.reg [Lo 55 (.mv (.t 1)),Lo 56 (.len (.t 55)),Lo 57 (.bin .eql (.t 56) (.k (.int .i64 1))),Lo 58 (.call 117 [.t 57])]) (.seq (.reg [Lo 59 (.mv (.t 1)),Lo 60 (.ia 4 (.t 59) (.k (.int .i64 0))),Lo 61 (.ld 4 true (.t 60)),Lo 62 (.call 119 [.t 61]),Lo 63 (.un .not (.t 62)),Lo 64 (.call 118 [.t 63]),.op ⟨none,.st 4 (.t 4) (.t 64),none⟩]) .ret)) (.seqj [0,1,4,12,65] (.seq (.reg [Lo 66 (.bin .eql (.t 12) (.k (.str [97,110,100]))),Lo 65 (.asg (.t 66))]) (.cond (.t 65) .skip (.reg [Lo 67 (.bin .eql (.t 12) (.k (.str [111,114]))),Lo 65 (.asg (.t 67))]))) (.cond (.t 65) (.seq (.reg [Lo 68 (.mv (.t 0)),Lo 69 (.bin .eql (.t 68) (.k (.str [97,110,100]))),Lo 6 (.asg (.t 69))]) (.seqj [4,6] (.seq (.reg [Lo 70 (.mv (.t 1)),Lo 71 (.len (.t 70)),Lo 72 (.mv (.k (.int .i64 0)))]) (.block 1 (.loop [0,4,6,70,71,72] (.seq (.reg [Lo 73 (.bin .lss (.t 72) (.t 71))]) (.seq (.cond (.t 73) .skip (.exit 1)) (.seqj [0,4,6,70,71,72] (.block 2 (.seq (.reg [Lo 74 (.ia 4 (.t 70) (.t 72)),Lo 75 (.ld 4 true (.t 74)),Lo 8 (.boxs 4 (.t 75))]) (.seq (.reg [Lo 76 (.ld 4 true (.t 8)),Lo 77 (.call 119 [.t 76]),Lo 9 (.asg (.t 77))]) (.seq (.reg [Lo 78 (.mv (.t 9)),Lo 79 (.mv (.t 0)),Lo 80 (.bin .eql (.t 79) (.k (.str [97,110,100]))),Lo 81 (.eqb true (.t 78) (.t 80))]) (.cond (.t 81) (.reg [Lo 82 (.mv (.t 9)),Lo 6 (.asg (.t 82))]) .skip))))) (.reg [Lo 83 (.bin .add (.t 72) (.k (.int .i64 1))),Lo 72 (.mv (.t 83))]))))))) (.seq (.reg [Lo 84 (.mv (.t 6)),Lo 85 (.call 118 [.t 84]),.op ⟨none,.st 4 (.t 4) (.t 85),none⟩]) .ret))) (.seqj [0,1,4,12,86] (.seq (.reg [Lo 87 (.bin .eql (.t 12) (.k (.str [61,62]))),Lo 86 (.asg (.t 87))]) (.cond (.t 86) .skip (.reg [Lo 88 (.bin .eql (.t 12) (.k (.str [105,102,102]))),Lo 86 (.asg (.t 88))]))) (.cond (.t 86) (.seq (.reg [Lo 89 (.mv (.t 1)),Lo 90 (.len (.t 89)),Lo 91 (.bin .eql (.t 90) (.k (.int .i64 2))),Lo 92 (.call 117 [.t 91])]) (.seq (.draw [Lo 93 (.mv (.t 1)),Lo 94 (.ia 4 (.t 93) (.k (.int .i64 0))),Lo 95 (.ld 4 true (.t 94)),Lo 96 (.call 119 [.t 95]),Lo 97 (.mv (.t 1)),Lo 98 (.ia 4 (.t 97) (.k (.int .i64 1))),Lo 99 (.ld 4 true (.t 98))] [Lo 100 (.call 119 [.t 99]),Lo 10 (.asg (.t 96)),Lo 11 (.asg (.t 100))]) (.seq (.reg [Lo 101 (.mv (.t 0)),Lo 102 (.bin .eql (.t 101) (.k (.str [61,62]))),Lo 103 (.mv (.t 102)),.grj 103 true [104,105,106] [Ro 104 (.mv (.t 10)),Ro 105 (.un .not (.t 104)),Ro 106 (.mv (.t 105))],.grj 106 false [107] [Ro 107 (.mv (.t 11))],.grj 103 true [108] [Ro 108 (.pick (.t 106) (.k (.bool true)) (.t 107))],Lo 109 (.pick (.t 103) (.t 108) (.k (.bool false))),Lo 110 (.mv (.t 109)),.grj 110 false [111,112,113] [Ro 111 (.mv (.t 0)),Ro 112 (.bin .eql (.t 111) (.k (.str [105,102,102]))),Ro 113 (.mv (.t 112))],.grj 113 true [114,115,116] [Ro 114 (.mv (.t 10)),Ro 115 (.mv (.t 11)),Ro 116 (.eqb false (.t 114) (.t 115))],.grj 110 false [117] [Ro 117 (.pick (.t 113) (.t 116) (.k (.bool false)))],Lo 118 (.pick (.t 110) (.k (.bool true)) (.t 117)),Lo 119 (.call 118 [.t 118]),.op ⟨none,.st 4 (.t 4) (.t 119),none⟩]) .ret))) (.seqj [0,1,4,120] (.seq (.reg [Lo 121 (.bin .eql (.t 12) (.k (.str [98,97,110,100]))),Lo 120 (.asg (.t 121))]) (.cond (.t 120) .skip (.seq (.reg [Lo 122 (.bin .eql (.t 12) (.k (.str [98,111,114]))),Lo 120 (.asg (.t 122))]) (.cond (.t 120) .skip (.seq (.reg [Lo 123 (.bin .eql (.t 12) (.k (.str [98,120,111,114]))),Lo 120 (.asg (.t 123))]) (.cond (.t 120) .skip (.seq (.reg [Lo 124 (.bin .eql (.t 12) (.k (.str [98,97,100,100]))),Lo 120 (.asg (.t 124))]) (.cond (.t 120) .skip (.reg [Lo 125 (.bin .eql (.t 12) (.k (.str [98,110,117,109]))),Lo 120 (.asg (.t 125))]))))))))) (.cond (.t 120) (.seq (.reg [Lo 126 (.mv (.t 0)),Lo 127 (.mv (.t 1)),Lo 128 (.call 120 [.t 126,.t 127]),.op ⟨none,.st 4 (.t 4) (.t 128),none⟩]) .ret) .skip)))))))))))))))) (.seq (.reg [Lo 129 (.mv (.t 0)),Lo 130 (.mv (.t 1)),Lo 131 (.call 121 [.t 129,.t 130]),.op ⟨none,.st 4 (.t 4) (.t 131),none⟩]) .ret))⟩
theorem c93 : compFm Tryz.prog Tryz.f93 [1000000016] = some L93.er := by kernel_rfl
theorem g93 : isGo Tryz.prog 93 = true := by kernel_rfl
def s93 (P : Program) (a0 a1 : V) (S : St) (K : AE → St → Prop) : Prop :=
 effA S (.new (.agg [.int .i64 0,.int .i64 0,.str [],.sl true 4 []])) fun x1 S1 =>
 gjn (fun j2 : V → V → V → V → V → St → Prop =>
 bnd (opV S1 (.bin .eql (.k a0.plain.plain.plain) (.k (.str [43])))) fun x161 =>
 brV x161.plain
 (j2 a0.plain a1.plain x1 a0.plain.plain x161 S1)
 (bnd (opV S1 (.bin .eql (.k a0.plain.plain.plain) (.k (.str [45])))) fun x162 =>
 brV x162.plain
 (j2 a0.plain a1.plain x1 a0.plain.plain x162 S1)
 (bnd (opV S1 (.bin .eql (.k a0.plain.plain.plain) (.k (.str [42])))) fun x163 =>
 brV x163.plain
 (j2 a0.plain a1.plain x1 a0.plain.plain x163 S1)
 (bnd (opV S1 (.bin .eql (.k a0.plain.plain.plain) (.k (.str [100, 105, 118])))) fun x164 =>
 brV x164.plain
 (j2 a0.plain a1.plain x1 a0.plain.plain x164 S1)
 (bnd (opV S1 (.bin .eql (.k a0.plain.plain.plain) (.k (.str [109, 111, 100])))) fun x165 =>
 brV x165.plain
 (j2 a0.plain a1.plain x1 a0.plain.plain x165 S1)
 (bnd (opV S1 (.bin .eql (.k a0.plain.plain.plain) (.k (.str [60])))) fun x166 =>
 brV x166.plain
 (j2 a0.plain a1.plain x1 a0.plain.plain x166 S1)
 (bnd (opV S1 (.bin .eql (.k a0.plain.plain.plain) (.k (.str [60, 61])))) fun x167 =>
 j2 a0.plain a1.plain x1 a0.plain.plain x167 S1)))))))
 (fun z3 z4 z5 z6 z7 S2 =>
 brV z7.plain
 (callA P 114 [z4.plain.plain, (.int .i64 2)] S2 (fun x8 S3 =>
 bnd (opV S3 (.ia 1 (.k x8.plain.plain) (.k (.int .i64 0)))) fun x9 =>
 bnd (opV S3 (.ld 1 false (.k x9.plain))) fun x10 =>
 bnd (opV S3 (.ia 1 (.k x8.plain.plain) (.k (.int .i64 1)))) fun x11 =>
 bnd (opV S3 (.ld 1 false (.k x11.plain))) fun x12 =>
 callA P 115 [z3.plain.plain, x10.plain, x12.plain] S3 (fun x13 S4 =>
 effA S4 (.st 4 (.k z5.plain) (.k x13.plain)) fun x14 S5 =>
 bnd (opV S5 (.ld 4 true (.k z5.plain))) fun x15 => K (.ret x15) S5) (kp K)) (kp K))
 (bnd (opV S2 (.bin .eql (.k z6.plain) (.k (.str [110, 101, 103])))) fun x16 =>
 brV x16.plain
 (callA P 114 [z4.plain.plain, (.int .i64 1)] S2 (fun x17 S6 =>
 bnd (opV S6 (.ia 1 (.k x17.plain) (.k (.int .i64 0)))) fun x18 =>
 bnd (opV S6 (.ld 1 false (.k x18.plain))) fun x19 =>
 bnd (opV S6 (.un .neg (.k x19.plain))) fun x20 =>
 callA P 116 [x20.plain] S6 (fun x21 S7 =>
 effA S7 (.st 4 (.k z5.plain) (.k x21.plain)) fun x22 S8 =>
 bnd (opV S8 (.ld 4 true (.k z5.plain))) fun x23 => K (.ret x23) S8) (kp K)) (kp K))
 (bnd (opV S2 (.bin .eql (.k z6.plain) (.k (.str [61])))) fun x24 =>
 brV x24.plain
 (bnd (opV S2 (.len (.k z4.plain.plain))) fun x25 =>
 bnd (opV S2 (.bin .eql (.k x25.plain) (.k (.int .i64 2)))) fun x26 =>
 callA P 117 [x26.plain] S2 (fun x27 S9 =>
 bnd (opV S9 (.ia 4 (.k z4.plain.plain) (.k (.int .i64 0)))) fun x28 =>
 bnd (opV S9 (.ld 4 true (.k x28.plain))) fun x29 =>
 bnd (opV S9 (.ia 4 (.k z4.plain.plain) (.k (.int .i64 1)))) fun x30 =>
 bnd (opV S9 (.ld 4 true (.k x30.plain))) fun x31 =>
 callA P 20 [x29.plain, x31.plain] S9 (fun x32 S10 =>
 callA P 118 [x32.plain] S10 (fun x33 S11 =>
 effA S11 (.st 4 (.k z5.plain) (.k x33.plain)) fun x34 S12 =>
 bnd (opV S12 (.ld 4 true (.k z5.plain))) fun x35 => K (.ret x35) S12) (kp K)) (kp K)) (kp K))
 (bnd (opV S2 (.bin .eql (.k z6.plain) (.k (.str [110, 111, 116])))) fun x36 =>
 brV x36.plain
 (bnd (opV S2 (.len (.k z4.plain.plain))) fun x37 =>
 bnd (opV S2 (.bin .eql (.k x37.plain) (.k (.int .i64 1)))) fun x38 =>
 callA P 117 [x38.plain] S2 (fun x39 S13 =>
 bnd (opV S13 (.ia 4 (.k z4.plain.plain) (.k (.int .i64 0)))) fun x40 =>
 bnd (opV S13 (.ld 4 true (.k x40.plain))) fun x41 =>
 callA P 119 [x41.plain] S13 (fun x42 S14 =>
 bnd (opV S14 (.un .not (.k x42.plain))) fun x43 =>
 callA P 118 [x43.plain] S14 (fun x44 S15 =>
 effA S15 (.st 4 (.k z5.plain) (.k x44.plain)) fun x45 S16 =>
 bnd (opV S16 (.ld 4 true (.k z5.plain))) fun x46 => K (.ret x46) S16) (kp K)) (kp K)) (kp K))
 (gjn (fun j47 : V → V → V → V → V → St → Prop =>
 bnd (opV S2 (.bin .eql (.k z6.plain) (.k (.str [97, 110, 100])))) fun x159 =>
 brV x159.plain
 (j47 z3 z4 z5 z6 x159 S2)
 (bnd (opV S2 (.bin .eql (.k z6.plain) (.k (.str [111, 114])))) fun x160 =>
 j47 z3 z4 z5 z6 x160 S2))
 (fun z48 z49 z50 z51 z52 S17 =>
 brV z52.plain
 (bnd (opV S17 (.bin .eql (.k z48.plain.plain) (.k (.str [97, 110, 100])))) fun x53 =>
 gjn (fun j54 : V → V → St → Prop =>
 bnd (opV S17 (.len (.k z49.plain.plain))) fun x60 =>
 loop6 (fun R61 w63 w64 w65 w66 w67 w68 S21 =>
 bnd (opV S21 (.bin .lss (.k w68.plain) (.k w67.plain))) fun x69 =>
 brV x69.plain
 (gjn (fun j70 : V → V → V → V → V → V → St → Prop =>
 bnd (opV S21 (.ia 4 (.k w66.plain) (.k w68.plain))) fun x78 =>
 bnd (opV S21 (.ld 4 true (.k x78.plain))) fun x79 =>
 effA S21 (.boxs 4 (.k x79.plain)) fun x80 S23 =>
 bnd (opV S23 (.ld 4 true (.k x80.plain))) fun x81 =>
 callA P 119 [x81.plain] S23 (fun x82 S24 =>
 bnd (opV S24 (.bin .eql (.k w63.plain.plain) (.k (.str [97, 110, 100])))) fun x83 =>
 bnd (opV S24 (.eqb true (.k x82.plain.plain) (.k x83.plain))) fun x84 =>
 brV x84.plain
 (j70 w63 w64 x82.plain w66 w67 w68 S24)
 (j70 w63 w64 w65 w66 w67 w68 S24)) (kp K))
 (fun z71 z72 z73 z74 z75 z76 S22 =>
 bnd (opV S22 (.bin .add (.k z76.plain) (.k (.int .i64 1)))) fun x77 =>
 R61 z71 z72 z73 z74 z75 x77.plain S22))
 (j54 w64 w65 S21))
 z48 z50 x53 z49.plain x60 ((.int .i64 0)) S17)
 (fun z55 z56 S18 =>
 callA P 118 [z56.plain.plain] S18 (fun x57 S19 =>
 effA S19 (.st 4 (.k z55.plain) (.k x57.plain)) fun x58 S20 =>
 bnd (opV S20 (.ld 4 true (.k z55.plain))) fun x59 => K (.ret x59) S20) (kp K)))
 (gjn (fun j85 : V → V → V → V → V → St → Prop =>
 bnd (opV S17 (.bin .eql (.k z51.plain) (.k (.str [61, 62])))) fun x157 =>
 brV x157.plain
 (j85 z48 z49 z50 z51 x157 S17)
 (bnd (opV S17 (.bin .eql (.k z51.plain) (.k (.str [105, 102, 102])))) fun x158 =>
 j85 z48 z49 z50 z51 x158 S17))
 (fun z86 z87 z88 z89 z90 S25 =>
 brV z90.plain
 (bnd (opV S25 (.len (.k z87.plain.plain))) fun x91 =>
 bnd (opV S25 (.bin .eql (.k x91.plain) (.k (.int .i64 2)))) fun x92 =>
 callA P 117 [x92.plain] S25 (fun x93 S26 =>
 bnd (opV S26 (.ia 4 (.k z87.plain.plain) (.k (.int .i64 0)))) fun x94 =>
 bnd (opV S26 (.ld 4 true (.k x94.plain))) fun x95 =>
 callP P 119 [x95.plain] S26 (fun x96 =>
 bnd (opV S26 (.ia 4 (.k z87.plain.plain) (.k (.int .i64 1)))) fun x97 =>
 bnd (opV S26 (.ld 4 true (.k x97.plain))) fun x98 =>
 callA P 119 [x98.plain] S26 (fun x99 S27 =>
 bnd (opV S27 (.bin .eql (.k z86.plain.plain) (.k (.str [61, 62])))) fun x100 =>
 gjn (fun j104 : V → V → V → St → Prop =>
 gdV x100.plain true
 (bnd (opV S27 (.un .not (.k x96.plain.plain))) fun x140 =>
 j104 x96.plain x140 x140.plain S27)
 (j104 V.undef V.undef V.undef S27))
 (fun y105 y106 y107 S29 =>
 gjn (fun j109 : V → St → Prop =>
 gdV y107 false
 (j109 x99.plain S29)
 (j109 V.undef S29))
 (fun y110 S31 =>
 gjn (fun j112 : V → St → Prop =>
 gdV x100.plain true
 (bnd (opV S31 (.pick (.k y107.plain) (.k (.bool true)) (.k y110.plain))) fun x139 =>
 j112 x139 S31)
 (j112 V.undef S31))
 (fun y113 S33 =>
 bnd (opV S33 (.pick (.k x100.plain.plain) (.k y113.plain) (.k (.bool false)))) fun x114 =>
 gjn (fun j118 : V → V → V → St → Prop =>
 gdV x114.plain false
 (bnd (opV S33 (.bin .eql (.k z86.plain.plain) (.k (.str [105, 102, 102])))) fun x138 =>
 j118 z86.plain x138 x138.plain S33)
 (j118 V.undef V.undef V.undef S33))
 (fun y119 y120 y121 S35 =>
 gjn (fun j125 : V → V → V → St → Prop =>
 gdV y121 true
 (bnd (opV S35 (.eqb false (.k x96.plain.plain) (.k x99.plain.plain))) fun x137 =>
 j125 x96.plain x99.plain x137 S35)
 (j125 V.undef V.undef V.undef S35))
 (fun y126 y127 y128 S37 =>
 gjn (fun j130 : V → St → Prop =>
 gdV x114.plain false
 (bnd (opV S37 (.pick (.k y121.plain) (.k y128.plain) (.k (.bool false)))) fun x136 =>
 j130 x136 S37)
 (j130 V.undef S37))
 (fun y131 S39 =>
 bnd (opV S39 (.pick (.k x114.plain.plain) (.k (.bool true)) (.k y131.plain))) fun x132 =>
 callA P 118 [x132.plain] S39 (fun x133 S40 =>
 effA S40 (.st 4 (.k z88.plain) (.k x133.plain)) fun x134 S41 =>
 bnd (opV S41 (.ld 4 true (.k z88.plain))) fun x135 => K (.ret x135) S41) (kp K)))))))) (kp K))) (kp K))
 (gjn (fun j141 : V → V → V → V → St → Prop =>
 bnd (opV S25 (.bin .eql (.k z89.plain) (.k (.str [98, 97, 110, 100])))) fun x152 =>
 brV x152.plain
 (j141 z86 z87 z88 x152 S25)
 (bnd (opV S25 (.bin .eql (.k z89.plain) (.k (.str [98, 111, 114])))) fun x153 =>
 brV x153.plain
 (j141 z86 z87 z88 x153 S25)
 (bnd (opV S25 (.bin .eql (.k z89.plain) (.k (.str [98, 120, 111, 114])))) fun x154 =>
 brV x154.plain
 (j141 z86 z87 z88 x154 S25)
 (bnd (opV S25 (.bin .eql (.k z89.plain) (.k (.str [98, 97, 100, 100])))) fun x155 =>
 brV x155.plain
 (j141 z86 z87 z88 x155 S25)
 (bnd (opV S25 (.bin .eql (.k z89.plain) (.k (.str [98, 110, 117, 109])))) fun x156 =>
 j141 z86 z87 z88 x156 S25)))))
 (fun z142 z143 z144 z145 S42 =>
 brV z145.plain
 (callA P 120 [z142.plain.plain, z143.plain.plain] S42 (fun x146 S43 =>
 effA S43 (.st 4 (.k z144.plain) (.k x146.plain)) fun x147 S44 =>
 bnd (opV S44 (.ld 4 true (.k z144.plain))) fun x148 => K (.ret x148) S44) (kp K))
 (callA P 121 [z142.plain.plain, z143.plain.plain] S42 (fun x149 S45 =>
 effA S45 (.st 4 (.k z144.plain) (.k x149.plain)) fun x150 S46 =>
 bnd (opV S46 (.ld 4 true (.k z144.plain))) fun x151 => K (.ret x151) S46) (kp K))))))))))))
theorem e93 : (fun (P : Program) (a0 a1 : V) (S : St) (K : AE → St → Prop) => lvc P L93.c (retL L93.rs K) (frame0 [a0, a1]) S) = s93 := by kernel_rfl
theorem t93 (a0 a1 : V) (r : AE) (hr : ∀ p, r.refsB p) (h : ∀ S, s93 Tryz.prog a0 a1 S fun e S' => e = r ∧ Own S S') : Thr Tryz.prog 93 [a0, a1] r :=
 Thr_of_lvcB (L := L93) hm Tryz.func93 g93 c93 (Nat.le_of_ble_eq_true rfl) hr fun S => by have := h S; rw [← e93] at this; exact this
def L121 : LF := ⟨244,[.cell 4 4 true],.seq (.reg [Lo 4 (.new (.agg [.int .i64 0,.int .i64 0,.str [],.sl true 4 []]))]) (.seq (.reg [Lo 7 (.mv (.t 1)),Lo 8 (.len (.t 7)),Lo 9 (.bin .gtr (.t 8) (.k (.int .i64 0))),Lo 10 (.call 117 [.t 9])]) (.seq (.reg [Lo 11 (.mv (.t 1)),Lo 12 (.ia 4 (.t 11) (.k (.int .i64 0))),Lo 13 (.ld 4 true (.t 12)),Lo 14 (.call 28 [.t 13]),Lo 5 (.asg (.t 14))]) (.seqj [0,1,4,5] (.seq (.reg [Lo 15 (.mv (.t 5)),Lo 16 (.bin .neq (.t 15) (.k (.str [115,101,113]))),Lo 17 (.mv (.t 16)),.grj 17 true [18,19] [Ro 18 (.mv (.t 5)),Ro 19 (.bin .neq (.t 18) (.k (.str [115,101,116])))],Lo 20 (.pick (.t 17) (.t 19) (.k (.bool false))),Lo 21 (.mv (.t 20)),.grj 21 true [22,23] [Ro 22 (.mv (.t 5)),Ro 23 (.bin .neq (.t 22) (.k (.str [98,97,103])))],Lo 24 (.pick (.t 21) (.t 23) (.k (.bool false))),Lo 25 (.mv (.t 24)),.grj 25 true [26,27] [Ro 26 (.mv (.t 5)),Ro 27 (.bin .neq (.t 26) (.k (.str [109,97,112])))],Lo 28 (.pick (.t 25) (.t 27) (.k (.bool false))),Lo 29 (.mv (.t 28)),.grj 29 true [30,31] [Ro 30 (.mv (.t 5)),Ro 31 (.bin .neq (.t 30) (.k (.str [105,109,97,112])))],Lo 32 (.pick (.t 29) (.t 31) (.k (.bool false)))]) (.cond (.t 32) (.reg [Lo 5 (.asg (.k (.str [])))]) .skip)) (.seq (.seq (.reg [Lo 33 (.mv (.t 0))]) (.block 0 (.seq (.reg [Lo 35 (.bin .eql (.t 33) (.k (.str [108,101,110]))),Lo 34 (.asg (.t 35))]) (.cond (.t 34) (.seq (.reg [Lo 36 (.mv (.t 1)),Lo 37 (.len (.t 36)),Lo 38 (.bin .eql (.t 37) (.k (.int .i64 1))),Lo 39 (.mv (.t 38)),.grj 39 true [40,41] [Ro 40 (.mv (.t 5)),Ro 41 (.bin .eql (.t 40) (.k (.str [115,101,113])))],Lo 42 (.pick (.t 39) (.t 41) (.k (.bool false))),Lo 43 (.call 117 [.t 42])]) (.seq (.reg [Lo 44 (.mv (.t 1)),Lo 45 (.ia 4 (.t 44) (.k (.int .i64 0))),Lo 46 (.fa 3 1 false (.t 45)),Lo 47 (.ld 1 false (.t 46)),Lo 48 (.len (.t 47)),Lo 49 (.bin .sub (.t 48) (.k (.int .i64 1))),Lo 50 (.call 80 [.t 49]),.op ⟨none,.st 4 (.t 4) (.t 50),none⟩]) .ret)) (.seq (.reg [Lo 52 (.bin .eql (.t 33) (.k (.str [97,116]))),Lo 51 (.asg (.t 52))]) (.cond (.t 51) (.seq (.reg [Lo 53 (.mv (.t 1)),Lo 54 (.len (.t 53)),Lo 55 (.bin .eql (.t 54) (.k (.int .i64 2))),Lo 56 (.mv (.t 55)),.grj 56 true [57,58] [Ro 57 (.mv (.t 5)),Ro 58 (.bin .eql (.t 57) (.k (.str [115,101,113])))],Lo 59 (.pick (.t 56) (.t 58) (.k (.bool false))),Lo 60 (.call 117 [.t 59])]) (.seq (.draw [Lo 61 (.mv (.t 1)),Lo 62 (.ia 4 (.t 61) (.k (.int .i64 0))),Lo 63 (.fa 3 1 false (.t 62)),Lo 64 (.ld 1 false (.t 63)),Lo 65 (.mv (.t 1)),Lo 66 (.ia 4 (.t 65) (.k (.int .i64 1))),Lo 67 (.ld 4 true (.t 66)),Lo 68 (.mv (.t 1)),Lo 69 (.ia 4 (.t 68) (.k (.int .i64 0))),Lo 70 (.fa 3 1 false (.t 69)),Lo 71 (.ld 1 false (.t 70)),Lo 72 (.len (.t 71)),Lo 73 (.bin .sub (.t 72) (.k (.int .i64 1))),Lo 74 (.call 142 [.t 67,.t 73]),Lo 75 (.bin .add (.k (.int .i64 1)) (.t 74))] [Lo 76 (.ia 4 (.t 64) (.t 75)),Lo 77 (.ld 4 true (.t 76)),.op ⟨none,.st 4 (.t 4) (.t 77),none⟩]) .ret)) (.seq (.reg [Lo 79 (.bin .eql (.t 33) (.k (.str [99,97,116]))),Lo 78 (.asg (.t 79))]) (.cond (.t 78) (.seq (.reg [Lo 80 (.mv (.t 1)),Lo 81 (.len (.t 80)),Lo 82 (.bin .eql (.t 81) (.k (.int .i64 2))),Lo 83 (.mv (.t 82)),.grj 83 true [84,85] [Ro 84 (.mv (.t 5)),Ro 85 (.bin .eql (.t 84) (.k (.str [115,101,113])))],Lo 86 (.pick (.t 83) (.t 85) (.k (.bool false))),Lo 87 (.mv (.t 86)),.grj 87 true [88,89,90,91,92] [Ro 88 (.mv (.t 1)),Ro 89 (.ia 4 (.t 88) (.k (.int .i64 1))),Ro 90 (.ld 4 true (.t 89)),Ro 91 (.call 28 [.t 90]),Ro 92 (.bin .eql (.t 91) (.k (.str [115,101,113])))],Lo 93 (.pick (.t 87) (.t 92) (.k (.bool false))),Lo 94 (.call 117 [.t 93])]) (.seq (.draw [Lo 95 (.mv (.t 1)),Lo 96 (.ia 4 (.t 95) (.k (.int .i64 0))),Lo 97 (.fa 3 1 false (.t 96)),Lo 98 (.ld 1 false (.t 97)),Lo 99 (.call 46 [.t 98]),Lo 100 (.mv (.t 1)),Lo 101 (.ia 4 (.t 100) (.k (.int .i64 1))),Lo 102 (.fa 3 1 false (.t 101)),Lo 103 (.ld 1 false (.t 102)),Lo 104 (.slc 4 (.t 103) (some (.k (.int .i64 1))) none none)] [Lo 105 (.app 22 24 4 56 (.t 99) (.t 104)),Lo 106 (.call 81 [.t 105]),.op ⟨none,.st 4 (.t 4) (.t 106),none⟩]) .ret)) (.seq (.reg [Lo 108 (.bin .eql (.t 33) (.k (.str [99,117,116]))),Lo 107 (.asg (.t 108))]) (.cond (.t 107) (.seq (.reg [Lo 109 (.mv (.t 1)),Lo 110 (.len (.t 109)),Lo 111 (.bin .eql (.t 110) (.k (.int .i64 3))),Lo 112 (.mv (.t 111)),.grj 112 true [113,114] [Ro 113 (.mv (.t 5)),Ro 114 (.bin .eql (.t 113) (.k (.str [115,101,113])))],Lo 115 (.pick (.t 112) (.t 114) (.k (.bool false))),Lo 116 (.call 117 [.t 115])]) (.seq (.reg [Lo 117 (.mv (.t 1)),Lo 118 (.slc 4 (.t 117) (some (.k (.int .i64 1))) none none),Lo 119 (.call 114 [.t 118,.k (.int .i64 2)]),Lo 6 (.asg (.t 119))]) (.seqj [1,4,6] (.seq (.draw [Lo 120 (.mv (.t 6)),Lo 121 (.ia 1 (.t 120) (.k (.int .i64 0))),Lo 122 (.ld 1 false (.t 121)),Lo 123 (.bin .lss (.t 122) (.k (.int .i64 0))),Lo 124 (.mv (.t 123)),.grj 124 false [125,126,127,128,129,130,131] [Ro 125 (.mv (.t 6)),Ro 126 (.ia 1 (.t 125) (.k (.int .i64 0))),Ro 127 (.ld 1 false (.t 126)),Ro 128 (.mv (.t 6)),Ro 129 (.ia 1 (.t 128) (.k (.int .i64 1))),Ro 130 (.ld 1 false (.t 129)),Ro 131 (.bin .gtr (.t 127) (.t 130))],Lo 132 (.pick (.t 124) (.k (.bool true)) (.t 131)),Lo 133 (.mv (.t 132)),.grj 133 false [134,135,136,137,138,139,140,141] [Ro 134 (.mv (.t 6)),Ro 135 (.ia 1 (.t 134) (.k (.int .i64 1))),Ro 136 (.ld 1 false (.t 135)),Ro 137 (.mv (.t 1)),Ro 138 (.ia 4 (.t 137) (.k (.int .i64 0))),Ro 139 (.fa 3 1 false (.t 138)),Ro 140 (.ld 1 false (.t 139)),Ro 141 (.len (.t 140))]] [.grj 133 false [142] [Ro 142 (.bin .geq (.t 136) (.t 141))],Lo 143 (.pick (.t 133) (.k (.bool true)) (.t 142))]) (.cond (.t 143) (.reg [Lo 144 (.call 140 [.k (.int .i64 3)])]) .skip)) (.seq (.draw [Lo 145 (.mv (.t 1)),Lo 146 (.ia 4 (.t 145) (.k (.int .i64 0))),Lo 147 (.fa 3 1 false (.t 146)),Lo 148 (.ld 1 false (.t 147)),Lo 149 (.mv (.t 6)),Lo 150 (.ia 1 (.t 149) (.k (.int .i64 0))),Lo 151 (.ld 1 false (.t 150)),Lo 152 (.bin .add (.k (.int .i64 1)) (.t 151)),Lo 153 (.mv (.t 6)),Lo 154 (.ia 1 (.t 153) (.k (.int .i64 1))),Lo 155 (.ld 1 false (.t 154)),Lo 156 (.bin .add (.k (.int .i64 1)) (.t 155))] [Lo 157 (.slc 4 (.t 148) (some (.t 152)) (some (.t 156)) none),Lo 158 (.call 45 [.k (.str [115,101,113]),.t 157]),.op ⟨none,.st 4 (.t 4) (.t 158),none⟩]) .ret)))) (.seq (.reg [Lo 160 (.bin .eql (.t 33) (.k (.str [112,117,116]))),Lo 159 (.asg (.t 160))]) (.cond (.t 159) (.seq (.reg [Lo 161 (.mv (.t 1)),Lo 162 (.len (.t 161)),Lo 163 (.bin .eql (.t 162) (.k (.int .i64 3))),Lo 164 (.call 117 [.t 163])]) (.seq (.reg [Lo 165 (.mv (.t 5)),Lo 166 (.mv (.t 1)),Lo 167 (.call 143 [.t 165,.t 166]),.op ⟨none,.st 4 (.t 4) (.t 167),none⟩]) .ret)) (.seqj [0,1,4,5,33,168] (.seq (.reg [Lo 169 (.bin .eql (.t 33) (.k (.str [105,110]))),Lo 168 (.asg (.t 169))]) (.cond (.t 168) .skip (.reg [Lo 170 (.bin .eql (.t 33) (.k (.str [99,111,117,110,116]))),Lo 168 (.asg (.t 170))]))) (.cond (.t 168) (.seq (.reg [Lo 171 (.mv (.t 1)),Lo 172 (.len (.t 171)),Lo 173 (.bin .eql (.t 172) (.k (.int .i64 2))),Lo 174 (.call 117 [.t 173])]) (.seq (.draw [Lo 175 (.mv (.t 0)),Lo 176 (.mv (.t 1)),Lo 177 (.ia 4 (.t 176) (.k (.int .i64 0))),Lo 178 (.ld 4 true (.t 177)),Lo 179 (.mv (.t 1)),Lo 180 (.ia 4 (.t 179) (.k (.int .i64 1))),Lo 181 (.ld 4 true (.t 180))] [Lo 182 (.call 144 [.t 175,.t 178,.t 181]),.op ⟨none,.st 4 (.t 4) (.t 182),none⟩]) .ret)) (.seqj [0,1,4,5,33,183] (.seq (.reg [Lo 184 (.bin .eql (.t 33) (.k (.str [106,111,105,110]))),Lo 183 (.asg (.t 184))]) (.cond (.t 183) .skip (.seq (.reg [Lo 185 (.bin .eql (.t 33) (.k (.str [109,101,101,116]))),Lo 183 (.asg (.t 185))]) (.cond (.t 183) .skip (.reg [Lo 186 (.bin .eql (.t 33) (.k (.str [108,101,115,115]))),Lo 183 (.asg (.t 186))]))))) (.cond (.t 183) (.seq (.reg [Lo 187 (.mv (.t 1)),Lo 188 (.len (.t 187)),Lo 189 (.bin .eql (.t 188) (.k (.int .i64 2))),Lo 190 (.call 117 [.t 189])]) (.seq (.draw [Lo 191 (.mv (.t 0)),Lo 192 (.mv (.t 5)),Lo 193 (.mv (.t 1)),Lo 194 (.ia 4 (.t 193) (.k (.int .i64 0))),Lo 195 (.ld 4 true (.t 194)),Lo 196 (.mv (.t 1)),Lo 197 (.ia 4 (.t 196) (.k (.int .i64 1))),Lo 198 (.ld 4 true (.t 197))] [Lo 199 (.call 145 [.t 191,.t 192,.t 195,.t 198]),.op ⟨none,.st 4 (.t 4) (.t 199),none⟩]) .ret)) (.seq (.reg [Lo 201 (.bin .eql (.t 33) (.k (.str [99,97,114,100]))),Lo 200 (.asg (.t 201))]) (.cond (.t 200) (.seq (.reg [Lo 202 (.mv (.t 1)),Lo 203 (.len (.t 202)),Lo 204 (.bin .eql (.t 203) (.k (.int .i64 1))),Lo 205 (.call 117 [.t 204])]) (.seq (.reg [Lo 206 (.mv (.t 5)),Lo 207 (.mv (.t 1)),Lo 208 (.ia 4 (.t 207) (.k (.int .i64 0))),Lo 209 (.ld 4 true (.t 208)),Lo 210 (.call 146 [.t 206,.t 209]),.op ⟨none,.st 4 (.t 4) (.t 210),none⟩]) .ret)) (.seq (.reg [Lo 212 (.bin .eql (.t 33) (.k (.str [108,111,111,107]))),Lo 211 (.asg (.t 212))]) (.cond (.t 211) (.seq (.reg [Lo 213 (.mv (.t 1)),Lo 214 (.len (.t 213)),Lo 215 (.bin .eql (.t 214) (.k (.int .i64 2))),Lo 216 (.call 117 [.t 215])]) (.seq (.draw [Lo 217 (.mv (.t 5)),Lo 218 (.mv (.t 1)),Lo 219 (.ia 4 (.t 218) (.k (.int .i64 0))),Lo 220 (.ld 4 true (.t 219)),Lo 221 (.mv (.t 1)),Lo 222 (.ia 4 (.t 221) (.k (.int .i64 1))),Lo 223 (.ld 4 true (.t 222))] [Lo 224 (.call 147 [.t 217,.t 220,.t 223]),.op ⟨none,.st 4 (.t 4) (.t 224),none⟩]) .ret)) (.seq (.reg [Lo 226 (.bin .eql (.t 33) (.k (.str [107,101,121,115]))),Lo 225 (.asg (.t 226))]) (.cond (.t 225) (.seq (.reg [Lo 227 (.mv (.t 1)),Lo 228 (.len (.t 227)),Lo 229 (.bin .eql (.t 228) (.k (.int .i64 1))),Lo 230 (.mv (.t 229)),.grj 230 true [231,232] [Ro 231 (.mv (.t 5)),Ro 232 (.bin .eql (.t 231) (.k (.str [109,97,112])))],Lo 233 (.pick (.t 230) (.t 232) (.k (.bool false))),Lo 234 (.call 117 [.t 233])]) (.seq (.reg [Lo 235 (.mv (.t 1)),Lo 236 (.ia 4 (.t 235) (.k (.int .i64 0))),Lo 237 (.fa 3 1 false (.t 236)),Lo 238 (.ld 1 false (.t 237)),Lo 239 (.slc 4 (.t 238) (some (.k (.int .i64 1))) none none),Lo 240 (.call 148 [.t 239]),Lo 241 (.call 45 [.k (.str [115,101,116]),.t 240]),.op ⟨none,.st 4 (.t 4) (.t 241),none⟩]) .ret)) .skip)))))))))))))))))))))) (.seq (.reg [Lo 242 (.call 117 [.k (.bool false)])]) (.seq (.reg [Lo 243 (.mk [.int .i64 0,.int .i64 0,.str [],.sl true 4 []] []),.op ⟨none,.st 4 (.t 4) (.t 243),none⟩]) .ret))))))⟩
theorem c121 : compFm Tryz.prog Tryz.f121 [] = some L121.er := by kernel_rfl
theorem g121 : isGo Tryz.prog 121 = true := by kernel_rfl
def s121 (P : Program) (a0 a1 : V) (S : St) (K : AE → St → Prop) : Prop :=
 effA S (.new (.agg [.int .i64 0,.int .i64 0,.str [],.sl true 4 []])) fun x1 S1 =>
 bnd (opV S1 (.len (.k a1.plain.plain.plain))) fun x2 =>
 bnd (opV S1 (.bin .gtr (.k x2.plain) (.k (.int .i64 0)))) fun x3 =>
 callA P 117 [x3.plain] S1 (fun x4 S2 =>
 bnd (opV S2 (.ia 4 (.k a1.plain.plain.plain) (.k (.int .i64 0)))) fun x5 =>
 bnd (opV S2 (.ld 4 true (.k x5.plain))) fun x6 =>
 callA P 28 [x6.plain] S2 (fun x7 S3 =>
 gjn (fun j8 : V → V → V → V → St → Prop =>
 bnd (opV S3 (.bin .neq (.k x7.plain.plain) (.k (.str [115, 101, 113])))) fun x270 =>
 gjn (fun j273 : V → V → St → Prop =>
 gdV x270.plain true
 (bnd (opV S3 (.bin .neq (.k x7.plain.plain) (.k (.str [115, 101, 116])))) fun x298 =>
 j273 x7.plain x298 S3)
 (j273 V.undef V.undef S3))
 (fun y274 y275 S60 =>
 bnd (opV S60 (.pick (.k x270.plain.plain) (.k y275.plain) (.k (.bool false)))) fun x276 =>
 gjn (fun j279 : V → V → St → Prop =>
 gdV x276.plain true
 (bnd (opV S60 (.bin .neq (.k x7.plain.plain) (.k (.str [98, 97, 103])))) fun x297 =>
 j279 x7.plain x297 S60)
 (j279 V.undef V.undef S60))
 (fun y280 y281 S62 =>
 bnd (opV S62 (.pick (.k x276.plain.plain) (.k y281.plain) (.k (.bool false)))) fun x282 =>
 gjn (fun j285 : V → V → St → Prop =>
 gdV x282.plain true
 (bnd (opV S62 (.bin .neq (.k x7.plain.plain) (.k (.str [109, 97, 112])))) fun x296 =>
 j285 x7.plain x296 S62)
 (j285 V.undef V.undef S62))
 (fun y286 y287 S64 =>
 bnd (opV S64 (.pick (.k x282.plain.plain) (.k y287.plain) (.k (.bool false)))) fun x288 =>
 gjn (fun j291 : V → V → St → Prop =>
 gdV x288.plain true
 (bnd (opV S64 (.bin .neq (.k x7.plain.plain) (.k (.str [105, 109, 97, 112])))) fun x295 =>
 j291 x7.plain x295 S64)
 (j291 V.undef V.undef S64))
 (fun y292 y293 S66 =>
 bnd (opV S66 (.pick (.k x288.plain.plain) (.k y293.plain) (.k (.bool false)))) fun x294 =>
 brV x294.plain
 (j8 a0.plain a1.plain x1 ((.str [])) S66)
 (j8 a0.plain a1.plain x1 x7 S66))))))
 (fun z9 z10 z11 z12 S4 =>
 bnd (opV S4 (.bin .eql (.k z9.plain.plain) (.k (.str [108, 101, 110])))) fun x13 =>
 brV x13.plain
 (bnd (opV S4 (.len (.k z10.plain.plain))) fun x14 =>
 bnd (opV S4 (.bin .eql (.k x14.plain) (.k (.int .i64 1)))) fun x15 =>
 gjn (fun j18 : V → V → St → Prop =>
 gdV x15.plain true
 (bnd (opV S4 (.bin .eql (.k z12.plain.plain) (.k (.str [115, 101, 113])))) fun x31 =>
 j18 z12.plain x31 S4)
 (j18 V.undef V.undef S4))
 (fun y19 y20 S6 =>
 bnd (opV S6 (.pick (.k x15.plain.plain) (.k y20.plain) (.k (.bool false)))) fun x21 =>
 callA P 117 [x21.plain] S6 (fun x22 S7 =>
 bnd (opV S7 (.ia 4 (.k z10.plain.plain) (.k (.int .i64 0)))) fun x23 =>
 bnd (opV S7 (.fa 3 1 false (.k x23.plain))) fun x24 =>
 bnd (opV S7 (.ld 1 false (.k x24.plain))) fun x25 =>
 bnd (opV S7 (.len (.k x25.plain))) fun x26 =>
 bnd (opV S7 (.bin .sub (.k x26.plain) (.k (.int .i64 1)))) fun x27 =>
 callA P 80 [x27.plain] S7 (fun x28 S8 =>
 effA S8 (.st 4 (.k z11.plain) (.k x28.plain)) fun x29 S9 =>
 bnd (opV S9 (.ld 4 true (.k z11.plain))) fun x30 => K (.ret x30) S9) (kp K)) (kp K)))
 (bnd (opV S4 (.bin .eql (.k z9.plain.plain) (.k (.str [97, 116])))) fun x32 =>
 brV x32.plain
 (bnd (opV S4 (.len (.k z10.plain.plain))) fun x33 =>
 bnd (opV S4 (.bin .eql (.k x33.plain) (.k (.int .i64 2)))) fun x34 =>
 gjn (fun j37 : V → V → St → Prop =>
 gdV x34.plain true
 (bnd (opV S4 (.bin .eql (.k z12.plain.plain) (.k (.str [115, 101, 113])))) fun x58 =>
 j37 z12.plain x58 S4)
 (j37 V.undef V.undef S4))
 (fun y38 y39 S11 =>
 bnd (opV S11 (.pick (.k x34.plain.plain) (.k y39.plain) (.k (.bool false)))) fun x40 =>
 callA P 117 [x40.plain] S11 (fun x41 S12 =>
 bnd (opV S12 (.ia 4 (.k z10.plain.plain) (.k (.int .i64 0)))) fun x42 =>
 bnd (opV S12 (.fa 3 1 false (.k x42.plain))) fun x43 =>
 bnd (opV S12 (.ld 1 false (.k x43.plain))) fun x44 =>
 bnd (opV S12 (.ia 4 (.k z10.plain.plain) (.k (.int .i64 1)))) fun x45 =>
 bnd (opV S12 (.ld 4 true (.k x45.plain))) fun x46 =>
 bnd (opV S12 (.ia 4 (.k z10.plain.plain) (.k (.int .i64 0)))) fun x47 =>
 bnd (opV S12 (.fa 3 1 false (.k x47.plain))) fun x48 =>
 bnd (opV S12 (.ld 1 false (.k x48.plain))) fun x49 =>
 bnd (opV S12 (.len (.k x49.plain))) fun x50 =>
 bnd (opV S12 (.bin .sub (.k x50.plain) (.k (.int .i64 1)))) fun x51 =>
 callP P 142 [x46.plain, x51.plain] S12 (fun x52 =>
 bnd (opV S12 (.bin .add (.k (.int .i64 1)) (.k x52.plain))) fun x53 =>
 bnd (opV S12 (.ia 4 (.k x44.plain) (.k x53.plain))) fun x54 =>
 bnd (opV S12 (.ld 4 true (.k x54.plain))) fun x55 =>
 effA S12 (.st 4 (.k z11.plain) (.k x55.plain)) fun x56 S13 =>
 bnd (opV S13 (.ld 4 true (.k z11.plain))) fun x57 => K (.ret x57) S13)) (kp K)))
 (bnd (opV S4 (.bin .eql (.k z9.plain.plain) (.k (.str [99, 97, 116])))) fun x59 =>
 brV x59.plain
 (bnd (opV S4 (.len (.k z10.plain.plain))) fun x60 =>
 bnd (opV S4 (.bin .eql (.k x60.plain) (.k (.int .i64 2)))) fun x61 =>
 gjn (fun j64 : V → V → St → Prop =>
 gdV x61.plain true
 (bnd (opV S4 (.bin .eql (.k z12.plain.plain) (.k (.str [115, 101, 113])))) fun x97 =>
 j64 z12.plain x97 S4)
 (j64 V.undef V.undef S4))
 (fun y65 y66 S15 =>
 bnd (opV S15 (.pick (.k x61.plain.plain) (.k y66.plain) (.k (.bool false)))) fun x67 =>
 gjn (fun j73 : V → V → V → V → V → St → Prop =>
 gdV x67.plain true
 (bnd (opV S15 (.ia 4 (.k z10.plain.plain) (.k (.int .i64 1)))) fun x93 =>
 bnd (opV S15 (.ld 4 true (.k x93.plain))) fun x94 =>
 callA P 28 [x94.plain] S15 (fun x95 S21 =>
 bnd (opV S21 (.bin .eql (.k x95.plain) (.k (.str [115, 101, 113])))) fun x96 =>
 j73 z10.plain x93 x94 x95 x96 S21) (kp K))
 (j73 V.undef V.undef V.undef V.undef V.undef S15))
 (fun y74 y75 y76 y77 y78 S17 =>
 bnd (opV S17 (.pick (.k x67.plain.plain) (.k y78.plain) (.k (.bool false)))) fun x79 =>
 callA P 117 [x79.plain] S17 (fun x80 S18 =>
 bnd (opV S18 (.ia 4 (.k z10.plain.plain) (.k (.int .i64 0)))) fun x81 =>
 bnd (opV S18 (.fa 3 1 false (.k x81.plain))) fun x82 =>
 bnd (opV S18 (.ld 1 false (.k x82.plain))) fun x83 =>
 callP P 46 [x83.plain] S18 (fun x84 =>
 bnd (opV S18 (.ia 4 (.k z10.plain.plain) (.k (.int .i64 1)))) fun x85 =>
 bnd (opV S18 (.fa 3 1 false (.k x85.plain))) fun x86 =>
 bnd (opV S18 (.ld 1 false (.k x86.plain))) fun x87 =>
 bnd (opV S18 (.slc 4 (.k x87.plain) (some (.k (.int .i64 1))) none none)) fun x88 =>
 bnd (appV Ops.std 24 4 56 x84 x88.plain) fun x89 =>
 callA P 81 [x89.plain] S18 (fun x90 S19 =>
 effA S19 (.st 4 (.k z11.plain) (.k x90.plain)) fun x91 S20 =>
 bnd (opV S20 (.ld 4 true (.k z11.plain))) fun x92 => K (.ret x92) S20) (kp K))) (kp K))))
 (bnd (opV S4 (.bin .eql (.k z9.plain.plain) (.k (.str [99, 117, 116])))) fun x98 =>
 brV x98.plain
 (bnd (opV S4 (.len (.k z10.plain.plain))) fun x99 =>
 bnd (opV S4 (.bin .eql (.k x99.plain) (.k (.int .i64 3)))) fun x100 =>
 gjn (fun j103 : V → V → St → Prop =>
 gdV x100.plain true
 (bnd (opV S4 (.bin .eql (.k z12.plain.plain) (.k (.str [115, 101, 113])))) fun x180 =>
 j103 z12.plain x180 S4)
 (j103 V.undef V.undef S4))
 (fun y104 y105 S23 =>
 bnd (opV S23 (.pick (.k x100.plain.plain) (.k y105.plain) (.k (.bool false)))) fun x106 =>
 callA P 117 [x106.plain] S23 (fun x107 S24 =>
 bnd (opV S24 (.slc 4 (.k z10.plain.plain) (some (.k (.int .i64 1))) none none)) fun x108 =>
 callA P 114 [x108.plain, (.int .i64 2)] S24 (fun x109 S25 =>
 gjn (fun j110 : V → V → V → St → Prop =>
 bnd (opV S25 (.ia 1 (.k x109.plain.plain) (.k (.int .i64 0)))) fun x127 =>
 bnd (opV S25 (.ld 1 false (.k x127.plain))) fun x128 =>
 bnd (opV S25 (.bin .lss (.k x128.plain) (.k (.int .i64 0)))) fun x129 =>
 gjn (fun j137 : V → V → V → V → V → V → V → St → Prop =>
 gdV x129.plain false
 (bnd (opV S25 (.ia 1 (.k x109.plain.plain) (.k (.int .i64 0)))) fun x175 =>
 bnd (opV S25 (.ld 1 false (.k x175.plain))) fun x176 =>
 bnd (opV S25 (.ia 1 (.k x109.plain.plain) (.k (.int .i64 1)))) fun x177 =>
 bnd (opV S25 (.ld 1 false (.k x177.plain))) fun x178 =>
 bnd (opV S25 (.bin .gtr (.k x176.plain) (.k x178.plain))) fun x179 =>
 j137 x109.plain x175 x176 x109.plain x177 x178 x179 S25)
 (j137 V.undef V.undef V.undef V.undef V.undef V.undef V.undef S25))
 (fun y138 y139 y140 y141 y142 y143 y144 S29 =>
 bnd (opV S25 (.pick (.k x129.plain.plain) (.k (.bool true)) (.k y144.plain))) fun x145 =>
 gjn (fun j154 : V → V → V → V → V → V → V → V → St → Prop =>
 gdV x145.plain false
 (bnd (opV S25 (.ia 1 (.k x109.plain.plain) (.k (.int .i64 1)))) fun x169 =>
 bnd (opV S25 (.ld 1 false (.k x169.plain))) fun x170 =>
 bnd (opV S25 (.ia 4 (.k z10.plain.plain) (.k (.int .i64 0)))) fun x171 =>
 bnd (opV S25 (.fa 3 1 false (.k x171.plain))) fun x172 =>
 bnd (opV S25 (.ld 1 false (.k x172.plain))) fun x173 =>
 bnd (opV S25 (.len (.k x173.plain))) fun x174 =>
 j154 x109.plain x169 x170 z10.plain x171 x172 x173 x174 S29)
 (j154 V.undef V.undef V.undef V.undef V.undef V.undef V.undef V.undef S29))
 (fun y155 y156 y157 y158 y159 y160 y161 y162 S30 =>
 gjn (fun j164 : V → St → Prop =>
 gdV x145.plain false
 (bnd (opV S30 (.bin .geq (.k y157.plain) (.k y162.plain))) fun x168 =>
 j164 x168 S30)
 (j164 V.undef S30))
 (fun y165 S32 =>
 bnd (opV S32 (.pick (.k x145.plain.plain) (.k (.bool true)) (.k y165.plain))) fun x166 =>
 brV x166.plain
 (callA P 140 [(.int .i64 3)] S32 (fun x167 S33 =>
 j110 z10 z11 x109 S33) (kp K))
 (j110 z10 z11 x109 S32)))))
 (fun z111 z112 z113 S26 =>
 bnd (opV S26 (.ia 4 (.k z111.plain.plain) (.k (.int .i64 0)))) fun x114 =>
 bnd (opV S26 (.fa 3 1 false (.k x114.plain))) fun x115 =>
 bnd (opV S26 (.ld 1 false (.k x115.plain))) fun x116 =>
 bnd (opV S26 (.ia 1 (.k z113.plain.plain) (.k (.int .i64 0)))) fun x117 =>
 bnd (opV S26 (.ld 1 false (.k x117.plain))) fun x118 =>
 bnd (opV S26 (.bin .add (.k (.int .i64 1)) (.k x118.plain))) fun x119 =>
 bnd (opV S26 (.ia 1 (.k z113.plain.plain) (.k (.int .i64 1)))) fun x120 =>
 bnd (opV S26 (.ld 1 false (.k x120.plain))) fun x121 =>
 bnd (opV S26 (.bin .add (.k (.int .i64 1)) (.k x121.plain))) fun x122 =>
 bnd (opV S26 (.slc 4 (.k x116.plain) (some (.k x119.plain)) (some (.k x122.plain)) none)) fun x123 =>
 callA P 45 [(.str [115, 101, 113]), x123.plain] S26 (fun x124 S27 =>
 effA S27 (.st 4 (.k z112.plain) (.k x124.plain)) fun x125 S28 =>
 bnd (opV S28 (.ld 4 true (.k z112.plain))) fun x126 => K (.ret x126) S28) (kp K))) (kp K)) (kp K)))
 (bnd (opV S4 (.bin .eql (.k z9.plain.plain) (.k (.str [112, 117, 116])))) fun x181 =>
 brV x181.plain
 (bnd (opV S4 (.len (.k z10.plain.plain))) fun x182 =>
 bnd (opV S4 (.bin .eql (.k x182.plain) (.k (.int .i64 3)))) fun x183 =>
 callA P 117 [x183.plain] S4 (fun x184 S34 =>
 callA P 143 [z12.plain.plain, z10.plain.plain] S34 (fun x185 S35 =>
 effA S35 (.st 4 (.k z11.plain) (.k x185.plain)) fun x186 S36 =>
 bnd (opV S36 (.ld 4 true (.k z11.plain))) fun x187 => K (.ret x187) S36) (kp K)) (kp K))
 (gjn (fun j188 : V → V → V → V → V → V → St → Prop =>
 bnd (opV S4 (.bin .eql (.k z9.plain.plain) (.k (.str [105, 110])))) fun x268 =>
 brV x268.plain
 (j188 z9 z10 z11 z12 z9.plain x268 S4)
 (bnd (opV S4 (.bin .eql (.k z9.plain.plain) (.k (.str [99, 111, 117, 110, 116])))) fun x269 =>
 j188 z9 z10 z11 z12 z9.plain x269 S4))
 (fun z189 z190 z191 z192 z193 z194 S37 =>
 brV z194.plain
 (bnd (opV S37 (.len (.k z190.plain.plain))) fun x195 =>
 bnd (opV S37 (.bin .eql (.k x195.plain) (.k (.int .i64 2)))) fun x196 =>
 callA P 117 [x196.plain] S37 (fun x197 S38 =>
 bnd (opV S38 (.ia 4 (.k z190.plain.plain) (.k (.int .i64 0)))) fun x198 =>
 bnd (opV S38 (.ld 4 true (.k x198.plain))) fun x199 =>
 bnd (opV S38 (.ia 4 (.k z190.plain.plain) (.k (.int .i64 1)))) fun x200 =>
 bnd (opV S38 (.ld 4 true (.k x200.plain))) fun x201 =>
 callA P 144 [z189.plain.plain, x199.plain, x201.plain] S38 (fun x202 S39 =>
 effA S39 (.st 4 (.k z191.plain) (.k x202.plain)) fun x203 S40 =>
 bnd (opV S40 (.ld 4 true (.k z191.plain))) fun x204 => K (.ret x204) S40) (kp K)) (kp K))
 (gjn (fun j205 : V → V → V → V → V → V → St → Prop =>
 bnd (opV S37 (.bin .eql (.k z193.plain) (.k (.str [106, 111, 105, 110])))) fun x265 =>
 brV x265.plain
 (j205 z189 z190 z191 z192 z193 x265 S37)
 (bnd (opV S37 (.bin .eql (.k z193.plain) (.k (.str [109, 101, 101, 116])))) fun x266 =>
 brV x266.plain
 (j205 z189 z190 z191 z192 z193 x266 S37)
 (bnd (opV S37 (.bin .eql (.k z193.plain) (.k (.str [108, 101, 115, 115])))) fun x267 =>
 j205 z189 z190 z191 z192 z193 x267 S37)))
 (fun z206 z207 z208 z209 z210 z211 S41 =>
 brV z211.plain
 (bnd (opV S41 (.len (.k z207.plain.plain))) fun x212 =>
 bnd (opV S41 (.bin .eql (.k x212.plain) (.k (.int .i64 2)))) fun x213 =>
 callA P 117 [x213.plain] S41 (fun x214 S42 =>
 bnd (opV S42 (.ia 4 (.k z207.plain.plain) (.k (.int .i64 0)))) fun x215 =>
 bnd (opV S42 (.ld 4 true (.k x215.plain))) fun x216 =>
 bnd (opV S42 (.ia 4 (.k z207.plain.plain) (.k (.int .i64 1)))) fun x217 =>
 bnd (opV S42 (.ld 4 true (.k x217.plain))) fun x218 =>
 callA P 145 [z206.plain.plain, z209.plain.plain, x216.plain, x218.plain] S42 (fun x219 S43 =>
 effA S43 (.st 4 (.k z208.plain) (.k x219.plain)) fun x220 S44 =>
 bnd (opV S44 (.ld 4 true (.k z208.plain))) fun x221 => K (.ret x221) S44) (kp K)) (kp K))
 (bnd (opV S41 (.bin .eql (.k z210.plain) (.k (.str [99, 97, 114, 100])))) fun x222 =>
 brV x222.plain
 (bnd (opV S41 (.len (.k z207.plain.plain))) fun x223 =>
 bnd (opV S41 (.bin .eql (.k x223.plain) (.k (.int .i64 1)))) fun x224 =>
 callA P 117 [x224.plain] S41 (fun x225 S45 =>
 bnd (opV S45 (.ia 4 (.k z207.plain.plain) (.k (.int .i64 0)))) fun x226 =>
 bnd (opV S45 (.ld 4 true (.k x226.plain))) fun x227 =>
 callA P 146 [z209.plain.plain, x227.plain] S45 (fun x228 S46 =>
 effA S46 (.st 4 (.k z208.plain) (.k x228.plain)) fun x229 S47 =>
 bnd (opV S47 (.ld 4 true (.k z208.plain))) fun x230 => K (.ret x230) S47) (kp K)) (kp K))
 (bnd (opV S41 (.bin .eql (.k z210.plain) (.k (.str [108, 111, 111, 107])))) fun x231 =>
 brV x231.plain
 (bnd (opV S41 (.len (.k z207.plain.plain))) fun x232 =>
 bnd (opV S41 (.bin .eql (.k x232.plain) (.k (.int .i64 2)))) fun x233 =>
 callA P 117 [x233.plain] S41 (fun x234 S48 =>
 bnd (opV S48 (.ia 4 (.k z207.plain.plain) (.k (.int .i64 0)))) fun x235 =>
 bnd (opV S48 (.ld 4 true (.k x235.plain))) fun x236 =>
 bnd (opV S48 (.ia 4 (.k z207.plain.plain) (.k (.int .i64 1)))) fun x237 =>
 bnd (opV S48 (.ld 4 true (.k x237.plain))) fun x238 =>
 callA P 147 [z209.plain.plain, x236.plain, x238.plain] S48 (fun x239 S49 =>
 effA S49 (.st 4 (.k z208.plain) (.k x239.plain)) fun x240 S50 =>
 bnd (opV S50 (.ld 4 true (.k z208.plain))) fun x241 => K (.ret x241) S50) (kp K)) (kp K))
 (bnd (opV S41 (.bin .eql (.k z210.plain) (.k (.str [107, 101, 121, 115])))) fun x242 =>
 brV x242.plain
 (bnd (opV S41 (.len (.k z207.plain.plain))) fun x243 =>
 bnd (opV S41 (.bin .eql (.k x243.plain) (.k (.int .i64 1)))) fun x244 =>
 gjn (fun j247 : V → V → St → Prop =>
 gdV x244.plain true
 (bnd (opV S41 (.bin .eql (.k z209.plain.plain) (.k (.str [109, 97, 112])))) fun x260 =>
 j247 z209.plain x260 S41)
 (j247 V.undef V.undef S41))
 (fun y248 y249 S52 =>
 bnd (opV S52 (.pick (.k x244.plain.plain) (.k y249.plain) (.k (.bool false)))) fun x250 =>
 callA P 117 [x250.plain] S52 (fun x251 S53 =>
 bnd (opV S53 (.ia 4 (.k z207.plain.plain) (.k (.int .i64 0)))) fun x252 =>
 bnd (opV S53 (.fa 3 1 false (.k x252.plain))) fun x253 =>
 bnd (opV S53 (.ld 1 false (.k x253.plain))) fun x254 =>
 bnd (opV S53 (.slc 4 (.k x254.plain) (some (.k (.int .i64 1))) none none)) fun x255 =>
 callA P 148 [x255.plain] S53 (fun x256 S54 =>
 callA P 45 [(.str [115, 101, 116]), x256.plain] S54 (fun x257 S55 =>
 effA S55 (.st 4 (.k z208.plain) (.k x257.plain)) fun x258 S56 =>
 bnd (opV S56 (.ld 4 true (.k z208.plain))) fun x259 => K (.ret x259) S56) (kp K)) (kp K)) (kp K)))
 (callA P 117 [(.bool false)] S41 (fun x261 S57 =>
 bnd (opV S57 (.mk [.int .i64 0,.int .i64 0,.str [],.sl true 4 []] [])) fun x262 =>
 effA S57 (.st 4 (.k z208.plain) (.k x262.plain)) fun x263 S58 =>
 bnd (opV S58 (.ld 4 true (.k z208.plain))) fun x264 => K (.ret x264) S58) (kp K))))))))))))))) (kp K)) (kp K)
theorem e121 : (fun (P : Program) (a0 a1 : V) (S : St) (K : AE → St → Prop) => lvc P L121.c (retL L121.rs K) (frame0 [a0, a1]) S) = s121 := by kernel_rfl
theorem t121 (a0 a1 : V) (r : AE) (hr : ∀ p, r.refsB p) (h : ∀ S, s121 Tryz.prog a0 a1 S fun e S' => e = r ∧ Own S S') : Thr Tryz.prog 121 [a0, a1] r :=
 Thr_of_lvcB (L := L121) hm Tryz.func121 g121 c121 (Nat.le_of_ble_eq_true rfl) hr fun S => by have := h S; rw [← e121] at this; exact this
def L145 : LF := ⟨114,[.cell 8 4 true],.seq (.reg [Lo 6 (.boxr (.t 2)),Lo 7 (.boxr (.t 3)),Lo 8 (.new (.agg [.int .i64 0,.int .i64 0,.str [],.sl true 4 []]))]) (.seq (.draw [Lo 14 (.fa 3 1 false (.t 6)),Lo 15 (.ld 1 false (.t 14)),Lo 16 (.fa 3 1 false (.t 7)),Lo 17 (.ld 1 false (.t 16)),Lo 10 (.new (.sl true 4 [])),Lo 9 (.asg (.t 15))] [.op ⟨none,.st 1 (.t 10) (.t 17),none⟩]) (.seq (.block 0 (.seq (.reg [Lo 19 (.mv (.t 1)),Lo 20 (.bin .eql (.t 19) (.k (.str [109,97,112]))),Lo 21 (.mv (.t 20)),.grj 21 true [22,23] [Ro 22 (.mv (.t 0)),Ro 23 (.bin .eql (.t 22) (.k (.str [108,101,115,115])))],Lo 24 (.pick (.t 21) (.t 23) (.k (.bool false))),Lo 18 (.asg (.t 24))]) (.cond (.t 18) (.seq (.reg [Lo 25 (.ld 4 true (.t 7)),Lo 26 (.call 28 [.t 25]),Lo 27 (.bin .eql (.t 26) (.k (.str [115,101,116]))),Lo 28 (.call 117 [.t 27])]) (.seq (.reg [Lo 29 (.mv (.t 9)),Lo 30 (.slc 4 (.t 29) (some (.k (.int .i64 1))) none none),Lo 31 (.call 46 [.t 30]),Lo 32 (.fun_ 178 [.t 10]),Lo 33 (.call 174 [.t 31,.t 32]),Lo 34 (.call 45 [.k (.str [109,97,112]),.t 33]),.op ⟨none,.st 4 (.t 8) (.t 34),none⟩]) .ret)) (.seq (.reg [Lo 36 (.mv (.t 1)),Lo 37 (.bin .eql (.t 36) (.k (.str [109,97,112]))),Lo 35 (.asg (.t 37))]) (.cond (.t 35) (.seq (.reg [Lo 38 (.mv (.t 0)),Lo 39 (.bin .eql (.t 38) (.k (.str [106,111,105,110]))),Lo 40 (.mv (.t 39)),.grj 40 true [41,42,43] [Ro 41 (.ld 4 true (.t 7)),Ro 42 (.call 28 [.t 41]),Ro 43 (.bin .eql (.t 42) (.k (.str [109,97,112])))],Lo 44 (.pick (.t 40) (.t 43) (.k (.bool false))),Lo 45 (.call 117 [.t 44])]) (.seq (.reg [Lo 46 (.mv (.t 9)),Lo 47 (.slc 4 (.t 46) (some (.k (.int .i64 1))) none none),Lo 11 (.asg (.t 47))]) (.seqj [8,11] (.seq (.reg [Lo 48 (.ld 1 false (.t 10)),Lo 49 (.slc 4 (.t 48) (some (.k (.int .i64 1))) none none),Lo 50 (.len (.t 49)),Lo 51 (.mv (.k (.int .i64 0)))]) (.block 1 (.loop [8,11,49,50,51] (.seq (.reg [Lo 52 (.bin .lss (.t 51) (.t 50))]) (.seq (.cond (.t 52) .skip (.exit 1)) (.seq (.block 2 (.seq (.reg [Lo 53 (.ia 4 (.t 49) (.t 51)),Lo 54 (.ld 4 true (.t 53)),Lo 13 (.boxs 4 (.t 54))]) (.draw [Lo 55 (.mv (.t 11)),Lo 56 (.fa 3 1 false (.t 13)),Lo 57 (.ld 1 false (.t 56)),Lo 58 (.ia 4 (.t 57) (.k (.int .i64 0))),Lo 59 (.ld 4 true (.t 58)),Lo 60 (.fa 3 1 false (.t 13)),Lo 61 (.ld 1 false (.t 60)),Lo 62 (.ia 4 (.t 61) (.k (.int .i64 1))),Lo 63 (.ld 4 true (.t 62))] [Lo 64 (.call 173 [.t 55,.t 59,.t 63]),Lo 11 (.asg (.t 64))]))) (.reg [Lo 65 (.bin .add (.t 51) (.k (.int .i64 1))),Lo 51 (.mv (.t 65))]))))))) (.seq (.reg [Lo 66 (.mv (.t 11)),Lo 67 (.call 45 [.k (.str [109,97,112]),.t 66]),.op ⟨none,.st 4 (.t 8) (.t 67),none⟩]) .ret)))) .skip))))) (.seq (.reg [Lo 68 (.mv (.t 1)),Lo 69 (.bin .eql (.t 68) (.k (.str [115,101,116]))),Lo 70 (.mv (.t 69)),.grj 70 false [71,72] [Ro 71 (.mv (.t 1)),Ro 72 (.bin .eql (.t 71) (.k (.str [98,97,103])))],Lo 73 (.pick (.t 70) (.k (.bool true)) (.t 72)),Lo 74 (.mv (.t 73)),.grj 74 true [75,76,77,78] [Ro 75 (.ld 4 true (.t 7)),Ro 76 (.call 28 [.t 75]),Ro 77 (.mv (.t 1)),Ro 78 (.bin .eql (.t 76) (.t 77))],Lo 79 (.pick (.t 74) (.t 78) (.k (.bool false))),Lo 80 (.call 117 [.t 79])]) (.seq (.seq (.reg [Lo 81 (.mv (.t 1)),Lo 82 (.bin .eql (.t 81) (.k (.str [98,97,103])))]) (.cond (.t 82) (.seq (.draw [Lo 83 (.mv (.t 0)),Lo 84 (.mv (.t 9)),Lo 85 (.slc 4 (.t 84) (some (.k (.int .i64 1))) none none),Lo 86 (.ld 1 false (.t 10)),Lo 87 (.slc 4 (.t 86) (some (.k (.int .i64 1))) none none)] [Lo 88 (.call 180 [.t 83,.t 85,.t 87]),.op ⟨none,.st 4 (.t 8) (.t 88),none⟩]) .ret) .skip)) (.seq (.seq (.reg [Lo 89 (.mv (.t 0))]) (.block 3 (.seq (.reg [Lo 91 (.bin .eql (.t 89) (.k (.str [106,111,105,110]))),Lo 90 (.asg (.t 91))]) (.cond (.t 90) (.seq (.draw [Lo 92 (.mv (.t 9)),Lo 93 (.slc 4 (.t 92) (some (.k (.int .i64 1))) none none),Lo 94 (.ld 1 false (.t 10)),Lo 95 (.slc 4 (.t 94) (some (.k (.int .i64 1))) none none)] [Lo 96 (.mks 22 1 [.t 93,.t 95]),Lo 97 (.call 182 [.t 96]),Lo 98 (.call 181 [.t 97]),Lo 99 (.call 45 [.k (.str [115,101,116]),.t 98]),.op ⟨none,.st 4 (.t 8) (.t 99),none⟩]) .ret) (.seq (.reg [Lo 101 (.bin .eql (.t 89) (.k (.str [109,101,101,116]))),Lo 100 (.asg (.t 101))]) (.cond (.t 100) (.seq (.reg [Lo 102 (.mv (.t 9)),Lo 103 (.slc 4 (.t 102) (some (.k (.int .i64 1))) none none),Lo 104 (.call 46 [.t 103]),Lo 105 (.fun_ 183 [.t 10]),Lo 106 (.call 174 [.t 104,.t 105]),Lo 107 (.call 45 [.k (.str [115,101,116]),.t 106]),.op ⟨none,.st 4 (.t 8) (.t 107),none⟩]) .ret) .skip)))))) (.seq (.reg [Lo 108 (.mv (.t 9)),Lo 109 (.slc 4 (.t 108) (some (.k (.int .i64 1))) none none),Lo 110 (.call 46 [.t 109]),Lo 111 (.fun_ 184 [.t 10]),Lo 112 (.call 174 [.t 110,.t 111]),Lo 113 (.call 45 [.k (.str [115,101,116]),.t 112]),.op ⟨none,.st 4 (.t 8) (.t 113),none⟩]) .ret))))))⟩
theorem c145 : compFm Tryz.prog Tryz.f145 [1000000014, 1000000015, 1000000021] = some L145.er := by kernel_rfl
theorem g145 : isGo Tryz.prog 145 = true := by kernel_rfl
def s145 (P : Program) (a0 a1 a2 a3 : V) (S : St) (K : AE → St → Prop) : Prop :=
 effA S (.boxr (.k a2.plain.plain)) fun x1 S1 =>
 effA S1 (.boxr (.k a3.plain.plain)) fun x2 S2 =>
 effA S2 (.new (.agg [.int .i64 0,.int .i64 0,.str [],.sl true 4 []])) fun x3 S3 =>
 bnd (opV S3 (.fa 3 1 false (.k x1.plain))) fun x4 =>
 bnd (opV S3 (.ld 1 false (.k x4.plain))) fun x5 =>
 bnd (opV S3 (.fa 3 1 false (.k x2.plain))) fun x6 =>
 bnd (opV S3 (.ld 1 false (.k x6.plain))) fun x7 =>
 (fun (S4 : St) =>
 effA S4 (.st 1 (.k (.ref S3.b S3.c 0)) (.k x7.plain)) fun x8 S5 =>
 bnd (opV S5 (.bin .eql (.k a1.plain.plain.plain) (.k (.str [109, 97, 112])))) fun x9 =>
 gjn (fun j12 : V → V → St → Prop =>
 gdV x9.plain true
 (bnd (opV S5 (.bin .eql (.k a0.plain.plain.plain) (.k (.str [108, 101, 115, 115])))) fun x123 =>
 j12 a0.plain.plain x123 S5)
 (j12 V.undef V.undef S5))
 (fun y13 y14 S7 =>
 bnd (opV S7 (.pick (.k x9.plain.plain) (.k y14.plain) (.k (.bool false)))) fun x15 =>
 brV x15.plain
 (bnd (opV S7 (.ld 4 true (.k x2.plain))) fun x16 =>
 callA P 28 [x16.plain] S7 (fun x17 S8 =>
 bnd (opV S8 (.bin .eql (.k x17.plain) (.k (.str [115, 101, 116])))) fun x18 =>
 callA P 117 [x18.plain] S8 (fun x19 S9 =>
 bnd (opV S9 (.slc 4 (.k x5.plain.plain) (some (.k (.int .i64 1))) none none)) fun x20 =>
 callA P 46 [x20.plain] S9 (fun x21 S10 =>
 callA P 174 [x21.plain, (.fn 178 [(.ref S3.b S3.c 0)])] S10 (fun x22 S11 =>
 callA P 45 [(.str [109, 97, 112]), x22.plain] S11 (fun x23 S12 =>
 effA S12 (.st 4 (.k x3.plain) (.k x23.plain)) fun x24 S13 =>
 bnd (opV S13 (.ld 4 true (.k x3.plain))) fun x25 => K (.ret x25) S13) (kp K)) (kp K)) (kp K)) (kp K)) (kp K))
 (bnd (opV S7 (.bin .eql (.k a1.plain.plain.plain) (.k (.str [109, 97, 112])))) fun x26 =>
 brV x26.plain
 (bnd (opV S7 (.bin .eql (.k a0.plain.plain.plain) (.k (.str [106, 111, 105, 110])))) fun x27 =>
 gjn (fun j31 : V → V → V → St → Prop =>
 gdV x27.plain true
 (bnd (opV S7 (.ld 4 true (.k x2.plain))) fun x68 =>
 callA P 28 [x68.plain] S7 (fun x69 S23 =>
 bnd (opV S23 (.bin .eql (.k x69.plain) (.k (.str [109, 97, 112])))) fun x70 =>
 j31 x68 x69 x70 S23) (kp K))
 (j31 V.undef V.undef V.undef S7))
 (fun y32 y33 y34 S15 =>
 bnd (opV S15 (.pick (.k x27.plain.plain) (.k y34.plain) (.k (.bool false)))) fun x35 =>
 callA P 117 [x35.plain] S15 (fun x36 S16 =>
 bnd (opV S16 (.slc 4 (.k x5.plain.plain) (some (.k (.int .i64 1))) none none)) fun x37 =>
 gjn (fun j38 : V → V → St → Prop =>
 bnd (opV S16 (.ld 1 false (.k (.ref S3.b S3.c 0)))) fun x44 =>
 bnd (opV S16 (.slc 4 (.k x44.plain) (some (.k (.int .i64 1))) none none)) fun x45 =>
 bnd (opV S16 (.len (.k x45.plain))) fun x46 =>
 loop5 (fun R47 w49 w50 w51 w52 w53 S20 =>
 bnd (opV S20 (.bin .lss (.k w53.plain) (.k w52.plain))) fun x54 =>
 brV x54.plain
 (bnd (opV S20 (.ia 4 (.k w51.plain) (.k w53.plain))) fun x55 =>
 bnd (opV S20 (.ld 4 true (.k x55.plain))) fun x56 =>
 effA S20 (.boxs 4 (.k x56.plain)) fun x57 S21 =>
 bnd (opV S21 (.fa 3 1 false (.k x57.plain))) fun x58 =>
 bnd (opV S21 (.ld 1 false (.k x58.plain))) fun x59 =>
 bnd (opV S21 (.ia 4 (.k x59.plain) (.k (.int .i64 0)))) fun x60 =>
 bnd (opV S21 (.ld 4 true (.k x60.plain))) fun x61 =>
 bnd (opV S21 (.fa 3 1 false (.k x57.plain))) fun x62 =>
 bnd (opV S21 (.ld 1 false (.k x62.plain))) fun x63 =>
 bnd (opV S21 (.ia 4 (.k x63.plain) (.k (.int .i64 1)))) fun x64 =>
 bnd (opV S21 (.ld 4 true (.k x64.plain))) fun x65 =>
 callA P 173 [w50.plain.plain, x61.plain, x65.plain] S21 (fun x66 S22 =>
 bnd (opV S22 (.bin .add (.k w53.plain) (.k (.int .i64 1)))) fun x67 =>
 R47 w49 x66 w51 w52 x67.plain S22) (kp K))
 (j38 w49 w50 S20))
 x3 x37 x45 x46 ((.int .i64 0)) S16)
 (fun z39 z40 S17 =>
 callA P 45 [(.str [109, 97, 112]), z40.plain.plain] S17 (fun x41 S18 =>
 effA S18 (.st 4 (.k z39.plain) (.k x41.plain)) fun x42 S19 =>
 bnd (opV S19 (.ld 4 true (.k z39.plain))) fun x43 => K (.ret x43) S19) (kp K))) (kp K)))
 (bnd (opV S7 (.bin .eql (.k a1.plain.plain.plain) (.k (.str [115, 101, 116])))) fun x71 =>
 gjn (fun j74 : V → V → St → Prop =>
 gdV x71.plain false
 (bnd (opV S7 (.bin .eql (.k a1.plain.plain.plain) (.k (.str [98, 97, 103])))) fun x122 =>
 j74 a1.plain.plain x122 S7)
 (j74 V.undef V.undef S7))
 (fun y75 y76 S25 =>
 bnd (opV S25 (.pick (.k x71.plain.plain) (.k (.bool true)) (.k y76.plain))) fun x77 =>
 gjn (fun j82 : V → V → V → V → St → Prop =>
 gdV x77.plain true
 (bnd (opV S25 (.ld 4 true (.k x2.plain))) fun x119 =>
 callA P 28 [x119.plain] S25 (fun x120 S44 =>
 bnd (opV S44 (.bin .eql (.k x120.plain) (.k a1.plain.plain.plain))) fun x121 =>
 j82 x119 x120 a1.plain.plain x121 S44) (kp K))
 (j82 V.undef V.undef V.undef V.undef S25))
 (fun y83 y84 y85 y86 S27 =>
 bnd (opV S27 (.pick (.k x77.plain.plain) (.k y86.plain) (.k (.bool false)))) fun x87 =>
 callA P 117 [x87.plain] S27 (fun x88 S28 =>
 bnd (opV S28 (.bin .eql (.k a1.plain.plain.plain) (.k (.str [98, 97, 103])))) fun x89 =>
 brV x89.plain
 (bnd (opV S28 (.slc 4 (.k x5.plain.plain) (some (.k (.int .i64 1))) none none)) fun x90 =>
 bnd (opV S28 (.ld 1 false (.k (.ref S3.b S3.c 0)))) fun x91 =>
 bnd (opV S28 (.slc 4 (.k x91.plain) (some (.k (.int .i64 1))) none none)) fun x92 =>
 callA P 180 [a0.plain.plain.plain, x90.plain, x92.plain] S28 (fun x93 S29 =>
 effA S29 (.st 4 (.k x3.plain) (.k x93.plain)) fun x94 S30 =>
 bnd (opV S30 (.ld 4 true (.k x3.plain))) fun x95 => K (.ret x95) S30) (kp K))
 (bnd (opV S28 (.bin .eql (.k a0.plain.plain.plain) (.k (.str [106, 111, 105, 110])))) fun x96 =>
 brV x96.plain
 (bnd (opV S28 (.slc 4 (.k x5.plain.plain) (some (.k (.int .i64 1))) none none)) fun x97 =>
 bnd (opV S28 (.ld 1 false (.k (.ref S3.b S3.c 0)))) fun x98 =>
 bnd (opV S28 (.slc 4 (.k x98.plain) (some (.k (.int .i64 1))) none none)) fun x99 =>
 effA S28 (.mks 22 1 [(.k x97.plain), (.k x99.plain)]) fun x100 S31 =>
 callA P 182 [x100.plain] S31 (fun x101 S32 =>
 callA P 181 [x101.plain] S32 (fun x102 S33 =>
 callA P 45 [(.str [115, 101, 116]), x102.plain] S33 (fun x103 S34 =>
 effA S34 (.st 4 (.k x3.plain) (.k x103.plain)) fun x104 S35 =>
 bnd (opV S35 (.ld 4 true (.k x3.plain))) fun x105 => K (.ret x105) S35) (kp K)) (kp K)) (kp K))
 (bnd (opV S28 (.bin .eql (.k a0.plain.plain.plain) (.k (.str [109, 101, 101, 116])))) fun x106 =>
 brV x106.plain
 (bnd (opV S28 (.slc 4 (.k x5.plain.plain) (some (.k (.int .i64 1))) none none)) fun x107 =>
 callA P 46 [x107.plain] S28 (fun x108 S36 =>
 callA P 174 [x108.plain, (.fn 183 [(.ref S3.b S3.c 0)])] S36 (fun x109 S37 =>
 callA P 45 [(.str [115, 101, 116]), x109.plain] S37 (fun x110 S38 =>
 effA S38 (.st 4 (.k x3.plain) (.k x110.plain)) fun x111 S39 =>
 bnd (opV S39 (.ld 4 true (.k x3.plain))) fun x112 => K (.ret x112) S39) (kp K)) (kp K)) (kp K))
 (bnd (opV S28 (.slc 4 (.k x5.plain.plain) (some (.k (.int .i64 1))) none none)) fun x113 =>
 callA P 46 [x113.plain] S28 (fun x114 S40 =>
 callA P 174 [x114.plain, (.fn 184 [(.ref S3.b S3.c 0)])] S40 (fun x115 S41 =>
 callA P 45 [(.str [115, 101, 116]), x115.plain] S41 (fun x116 S42 =>
 effA S42 (.st 4 (.k x3.plain) (.k x116.plain)) fun x117 S43 =>
 bnd (opV S43 (.ld 4 true (.k x3.plain))) fun x118 => K (.ret x118) S43) (kp K)) (kp K)) (kp K))))) (kp K))))))) ((S3.room 1).set S3.b S3.c (.sl true 4 []))
theorem e145 : (fun (P : Program) (a0 a1 a2 a3 : V) (S : St) (K : AE → St → Prop) => lvc P L145.c (retL L145.rs K) (frame0 [a0, a1, a2, a3]) S) = s145 := by kernel_rfl
theorem t145 (a0 a1 a2 a3 : V) (r : AE) (hr : ∀ p, r.refsB p) (h : ∀ S, s145 Tryz.prog a0 a1 a2 a3 S fun e S' => e = r ∧ Own S S') : Thr Tryz.prog 145 [a0, a1, a2, a3] r :=
 Thr_of_lvcB (L := L145) hm Tryz.func145 g145 c145 (Nat.le_of_ble_eq_true rfl) hr fun S => by have := h S; rw [← e145] at this; exact this
def L180 : LF := ⟨60,[.cell 6 4 true],.seq (.reg [Lo 6 (.new (.agg [.int .i64 0,.int .i64 0,.str [],.sl true 4 []]))]) (.seq (.reg [Lo 7 (.asg (.k (.sl true 4 [])))]) (.seqj [6,7] (.seq (.reg [Lo 12 (.mv (.t 1)),Lo 13 (.call 148 [.t 12]),Lo 14 (.mv (.t 2)),Lo 15 (.call 148 [.t 14]),Lo 16 (.app 22 24 4 56 (.t 13) (.t 15)),Lo 17 (.call 181 [.t 16]),Lo 18 (.len (.t 17)),Lo 19 (.mv (.k (.int .i64 0)))]) (.block 0 (.loop [0,1,2,6,7,17,18,19] (.seq (.reg [Lo 20 (.bin .lss (.t 19) (.t 18))]) (.seq (.cond (.t 20) .skip (.exit 0)) (.seqj [0,1,2,6,7,17,18,19] (.block 1 (.seq (.reg [Lo 21 (.ia 4 (.t 17) (.t 19)),Lo 22 (.ld 4 true (.t 21)),Lo 9 (.boxs 4 (.t 22))]) (.seq (.draw [Lo 23 (.mv (.t 1)),Lo 24 (.ld 4 true (.t 9)),Lo 25 (.call 215 [.t 23,.t 24]),Lo 26 (.mv (.t 2)),Lo 27 (.ld 4 true (.t 9))] [Lo 28 (.call 215 [.t 26,.t 27]),Lo 10 (.asg (.t 25)),Lo 11 (.asg (.t 28))]) (.seqj [0,1,2,6,7,9,10,17,18,19] (.seq (.reg [Lo 29 (.mv (.t 0))]) (.block 2 (.seq (.reg [Lo 35 (.bin .eql (.t 29) (.k (.str [106,111,105,110]))),Lo 34 (.asg (.t 35))]) (.cond (.t 34) (.seq (.reg [Lo 36 (.mv (.t 10)),Lo 37 (.mv (.t 11)),Lo 38 (.bin .add (.t 36) (.t 37)),Lo 10 (.asg (.t 38))]) (.seq (.reg [Lo 39 (.mv (.t 10)),Lo 40 (.bin .gtr (.t 39) (.k (.int .i64 1152921504606846976)))]) (.cond (.t 40) (.reg [Lo 41 (.call 140 [.k (.int .i64 5)])]) .skip))) (.seq (.reg [Lo 43 (.bin .eql (.t 29) (.k (.str [109,101,101,116]))),Lo 42 (.asg (.t 43))]) (.cond (.t 42) (.reg [Lo 44 (.mv (.t 10)),Lo 45 (.mv (.t 11)),Lo 46 (.mnx false (.t 44) [.t 45]),Lo 10 (.asg (.t 46))]) (.reg [Lo 30 (.mv (.t 10)),Lo 31 (.mv (.t 11)),Lo 32 (.bin .sub (.t 30) (.t 31)),Lo 33 (.mnx true (.k (.int .i64 0)) [.t 32]),Lo 10 (.asg (.t 33))]))))))) (.seq (.reg [Lo 47 (.mv (.t 10)),Lo 48 (.bin .gtr (.t 47) (.k (.int .i64 0)))]) (.cond (.t 48) (.draw [Lo 49 (.asg (.t 7)),Lo 50 (.ld 4 true (.t 9)),Lo 51 (.mv (.t 10)),Lo 52 (.call 80 [.t 51]),Lo 53 (.mks 24 4 [.t 50,.t 52]),Lo 54 (.call 81 [.t 53]),Lo 55 (.mks 24 4 [.t 54])] [Lo 56 (.app 22 24 4 56 (.t 49) (.t 55)),Lo 7 (.asg (.t 56))]) .skip)))))) (.reg [Lo 57 (.bin .add (.t 19) (.k (.int .i64 1))),Lo 19 (.mv (.t 57))]))))))) (.seq (.reg [Lo 58 (.mv (.t 7)),Lo 59 (.call 45 [.k (.str [98,97,103]),.t 58]),.op ⟨none,.st 4 (.t 6) (.t 59),none⟩]) .ret)))⟩
theorem c180 : compFm Tryz.prog Tryz.f180 [1000000017] = some L180.er := by kernel_rfl
theorem g180 : isGo Tryz.prog 180 = true := by kernel_rfl
def s180 (P : Program) (a0 a1 a2 : V) (S : St) (K : AE → St → Prop) : Prop :=
 effA S (.new (.agg [.int .i64 0,.int .i64 0,.str [],.sl true 4 []])) fun x1 S1 =>
 gjn (fun j2 : V → V → St → Prop =>
 callA P 148 [a1.plain.plain.plain] S1 (fun x8 S5 =>
 callA P 148 [a2.plain.plain.plain] S5 (fun x9 S6 =>
 bnd (appV Ops.std 24 4 56 x8 x9.plain) fun x10 =>
 callA P 181 [x10.plain] S6 (fun x11 S7 =>
 bnd (opV S7 (.len (.k x11.plain))) fun x12 =>
 loop8 (fun R13 w15 w16 w17 w18 w19 w20 w21 w22 S8 =>
 bnd (opV S8 (.bin .lss (.k w22.plain) (.k w21.plain))) fun x23 =>
 brV x23.plain
 (gjn (fun j24 : V → V → V → V → V → V → V → V → St → Prop =>
 bnd (opV S8 (.ia 4 (.k w20.plain) (.k w22.plain))) fun x34 =>
 bnd (opV S8 (.ld 4 true (.k x34.plain))) fun x35 =>
 effA S8 (.boxs 4 (.k x35.plain)) fun x36 S10 =>
 bnd (opV S10 (.ld 4 true (.k x36.plain))) fun x37 =>
 callP P 215 [w16.plain.plain, x37.plain] S10 (fun x38 =>
 bnd (opV S10 (.ld 4 true (.k x36.plain))) fun x39 =>
 callA P 215 [w17.plain.plain, x39.plain] S10 (fun x40 S11 =>
 gjn (fun j41 : V → V → V → V → V → V → V → V → V → V → St → Prop =>
 bnd (opV S11 (.bin .eql (.k w15.plain.plain) (.k (.str [106, 111, 105, 110])))) fun x59 =>
 brV x59.plain
 (bnd (opV S11 (.bin .add (.k x38.plain.plain) (.k x40.plain.plain))) fun x60 =>
 bnd (opV S11 (.bin .gtr (.k x60.plain.plain) (.k (.int .i64 1152921504606846976)))) fun x61 =>
 brV x61.plain
 (callA P 140 [(.int .i64 5)] S11 (fun x62 S13 =>
 j41 w15 w16 w17 w18 w19 x36 x60 w20 w21 w22 S13) (kp K))
 (j41 w15 w16 w17 w18 w19 x36 x60 w20 w21 w22 S11))
 (bnd (opV S11 (.bin .eql (.k w15.plain.plain) (.k (.str [109, 101, 101, 116])))) fun x63 =>
 brV x63.plain
 (bnd (opV S11 (.mnx false (.k x38.plain.plain) [(.k x40.plain.plain)])) fun x64 =>
 j41 w15 w16 w17 w18 w19 x36 x64 w20 w21 w22 S11)
 (bnd (opV S11 (.bin .sub (.k x38.plain.plain) (.k x40.plain.plain))) fun x65 =>
 bnd (opV S11 (.mnx true (.k (.int .i64 0)) [(.k x65.plain)])) fun x66 =>
 j41 w15 w16 w17 w18 w19 x36 x66 w20 w21 w22 S11)))
 (fun z42 z43 z44 z45 z46 z47 z48 z49 z50 z51 S12 =>
 bnd (opV S12 (.bin .gtr (.k z48.plain.plain) (.k (.int .i64 0)))) fun x52 =>
 brV x52.plain
 (bnd (opV S12 (.ld 4 true (.k z47.plain))) fun x53 =>
 callP P 80 [z48.plain.plain] S12 (fun x54 =>
 effA S12 (.mks 24 4 [(.k x53.plain), (.k x54.plain)]) fun x55 _ =>
 callP P 81 [x55.plain] S12 (fun x56 =>
 effA S12 (.mks 24 4 [(.k x56.plain)]) fun x57 _ =>
 bnd (appV Ops.std 24 4 56 z46 x57.plain) fun x58 =>
 j24 z42 z43 z44 z45 x58 z49 z50 z51 S12)))
 (j24 z42 z43 z44 z45 z46 z49 z50 z51 S12))) (kp K)))
 (fun z25 z26 z27 z28 z29 z30 z31 z32 S9 =>
 bnd (opV S9 (.bin .add (.k z32.plain) (.k (.int .i64 1)))) fun x33 =>
 R13 z25 z26 z27 z28 z29 z30 z31 x33.plain S9))
 (j2 w18 w19 S8))
 a0.plain a1.plain a2.plain x1 ((.sl true 4 [])) x11 x12 ((.int .i64 0)) S7) (kp K)) (kp K)) (kp K))
 (fun z3 z4 S2 =>
 callA P 45 [(.str [98, 97, 103]), z4.plain.plain] S2 (fun x5 S3 =>
 effA S3 (.st 4 (.k z3.plain) (.k x5.plain)) fun x6 S4 =>
 bnd (opV S4 (.ld 4 true (.k z3.plain))) fun x7 => K (.ret x7) S4) (kp K))
theorem e180 : (fun (P : Program) (a0 a1 a2 : V) (S : St) (K : AE → St → Prop) => lvc P L180.c (retL L180.rs K) (frame0 [a0, a1, a2]) S) = s180 := by kernel_rfl
theorem t180 (a0 a1 a2 : V) (r : AE) (hr : ∀ p, r.refsB p) (h : ∀ S, s180 Tryz.prog a0 a1 a2 S fun e S' => e = r ∧ Own S S') : Thr Tryz.prog 180 [a0, a1, a2] r :=
 Thr_of_lvcB (L := L180) hm Tryz.func180 g180 c180 (Nat.le_of_ble_eq_true rfl) hr fun S => by have := h S; rw [← e180] at this; exact this
def L148 : LF := ⟨21,[.tmp 2],.seq (.reg [Lo 2 (.asg (.k (.sl true 4 [])))]) (.seq (.reg [Lo 3 (.asg (.k (.sl true 4 [])))]) (.seqj [3] (.seq (.reg [Lo 6 (.mv (.t 0)),Lo 7 (.len (.t 6)),Lo 8 (.mv (.k (.int .i64 0)))]) (.block 0 (.loop [3,6,7,8] (.seq (.reg [Lo 9 (.bin .lss (.t 8) (.t 7))]) (.seq (.cond (.t 9) .skip (.exit 0)) (.seq (.block 1 (.seq (.reg [Lo 10 (.ia 4 (.t 6) (.t 8)),Lo 11 (.ld 4 true (.t 10)),Lo 5 (.boxs 4 (.t 11))]) (.reg [Lo 12 (.asg (.t 3)),Lo 13 (.fa 3 1 false (.t 5)),Lo 14 (.ld 1 false (.t 13)),Lo 15 (.ia 4 (.t 14) (.k (.int .i64 0))),Lo 16 (.ld 4 true (.t 15)),Lo 17 (.mks 24 4 [.t 16]),Lo 18 (.app 22 24 4 56 (.t 12) (.t 17)),Lo 3 (.asg (.t 18))]))) (.reg [Lo 19 (.bin .add (.t 8) (.k (.int .i64 1))),Lo 8 (.mv (.t 19))]))))))) (.seq (.reg [Lo 20 (.asg (.t 3)),Lo 2 (.asg (.t 20))]) .ret)))⟩
theorem c148 : compFm Tryz.prog Tryz.f148 [1000000007] = some L148.er := by kernel_rfl
theorem g148 : isGo Tryz.prog 148 = true := by kernel_rfl
def s148 (P : Program) (a0 : V) (S : St) (K : AE → St → Prop) : Prop :=
 gjn (fun j1 : V → St → Prop =>
 bnd (opV S (.len (.k a0.plain.plain.plain))) fun x3 =>
 loop4 (fun R4 w6 w7 w8 w9 S2 =>
 bnd (opV S2 (.bin .lss (.k w9.plain) (.k w8.plain))) fun x10 =>
 brV x10.plain
 (bnd (opV S2 (.ia 4 (.k w7.plain) (.k w9.plain))) fun x11 =>
 bnd (opV S2 (.ld 4 true (.k x11.plain))) fun x12 =>
 effA S2 (.boxs 4 (.k x12.plain)) fun x13 S3 =>
 bnd (opV S3 (.fa 3 1 false (.k x13.plain))) fun x14 =>
 bnd (opV S3 (.ld 1 false (.k x14.plain))) fun x15 =>
 bnd (opV S3 (.ia 4 (.k x15.plain) (.k (.int .i64 0)))) fun x16 =>
 bnd (opV S3 (.ld 4 true (.k x16.plain))) fun x17 =>
 effA S3 (.mks 24 4 [(.k x17.plain)]) fun x18 S4 =>
 bnd (appV Ops.std 24 4 56 w6 x18.plain) fun x19 =>
 bnd (opV S4 (.bin .add (.k w9.plain) (.k (.int .i64 1)))) fun x20 =>
 R4 x19 w7 w8 x20.plain S4)
 (j1 w6 S2))
 ((.sl true 4 [])) a0.plain.plain x3 ((.int .i64 0)) S)
 (fun z2 S1 =>
 K (.ret z2) S1)
theorem e148 : (fun (P : Program) (a0 : V) (S : St) (K : AE → St → Prop) => lvc P L148.c (retL L148.rs K) (frame0 [a0]) S) = s148 := by kernel_rfl
theorem t148 (a0 : V) (r : AE) (h : ∀ S, s148 Tryz.prog a0 S fun e S' => e = r ∧ S' = S) : Thr Tryz.prog 148 [a0] r :=
 Thr_of_lvc (L := L148) hm Tryz.func148 g148 c148 (Nat.le_of_ble_eq_true rfl) fun S => by have := h S; rw [← e148] at this; exact this
def L215 : LF := ⟨23,[.tmp 4],.seq (.reg [Lo 3 (.boxr (.t 1)),Lo 4 (.asg (.k (.int .i64 0)))]) (.seq (.reg [Lo 8 (.mv (.t 0)),Lo 9 (.ld 4 true (.t 3)),Lo 10 (.call 176 [.t 8,.t 9]),Lo 7 (.mv (.t 10)),Lo 11 (.ext (.t 7) 0),Lo 12 (.ext (.t 7) 1),Lo 5 (.asg (.t 11)),Lo 6 (.asg (.t 12))]) (.seq (.seq (.reg [Lo 13 (.mv (.t 6)),Lo 14 (.un .not (.t 13))]) (.cond (.t 14) (.seq (.reg [Lo 4 (.asg (.k (.int .i64 0)))]) .ret) .skip)) (.seq (.reg [Lo 15 (.mv (.t 0)),Lo 16 (.mv (.t 5)),Lo 17 (.ia 4 (.t 15) (.t 16)),Lo 18 (.fa 3 1 false (.t 17)),Lo 19 (.ld 1 false (.t 18)),Lo 20 (.ia 4 (.t 19) (.k (.int .i64 1))),Lo 21 (.fa 1 1 false (.t 20)),Lo 22 (.ld 1 false (.t 21)),Lo 4 (.asg (.t 22))]) .ret)))⟩
theorem c215 : compFm Tryz.prog Tryz.f215 [1000000007] = some L215.er := by kernel_rfl
theorem g215 : isGo Tryz.prog 215 = true := by kernel_rfl
def s215 (P : Program) (a0 a1 : V) (S : St) (K : AE → St → Prop) : Prop :=
 effA S (.boxr (.k a1.plain.plain)) fun x1 S1 =>
 bnd (opV S1 (.ld 4 true (.k x1.plain))) fun x2 =>
 callA P 176 [a0.plain.plain.plain, x2.plain] S1 (fun x3 S2 =>
 bnd (opV S2 (.ext (.k x3.plain.plain) 0)) fun x4 =>
 bnd (opV S2 (.ext (.k x3.plain.plain) 1)) fun x5 =>
 bnd (opV S2 (.un .not (.k x5.plain.plain))) fun x6 =>
 brV x6.plain
 (K (.ret ((.int .i64 0))) S2)
 (bnd (opV S2 (.ia 4 (.k a0.plain.plain.plain) (.k x4.plain.plain))) fun x7 =>
 bnd (opV S2 (.fa 3 1 false (.k x7.plain))) fun x8 =>
 bnd (opV S2 (.ld 1 false (.k x8.plain))) fun x9 =>
 bnd (opV S2 (.ia 4 (.k x9.plain) (.k (.int .i64 1)))) fun x10 =>
 bnd (opV S2 (.fa 1 1 false (.k x10.plain))) fun x11 =>
 bnd (opV S2 (.ld 1 false (.k x11.plain))) fun x12 =>
 K (.ret x12) S2)) (kp K)
theorem e215 : (fun (P : Program) (a0 a1 : V) (S : St) (K : AE → St → Prop) => lvc P L215.c (retL L215.rs K) (frame0 [a0, a1]) S) = s215 := by kernel_rfl
theorem t215 (a0 a1 : V) (r : AE) (h : ∀ S, s215 Tryz.prog a0 a1 S fun e S' => e = r ∧ S' = S) : Thr Tryz.prog 215 [a0, a1] r :=
 Thr_of_lvc (L := L215) hm Tryz.func215 g215 c215 (Nat.le_of_ble_eq_true rfl) fun S => by have := h S; rw [← e215] at this; exact this
def L176 : LF := ⟨11,[.tmp 4,.tmp 5],.seq (.reg [Lo 3 (.boxr (.t 1)),Lo 4 (.asg (.k (.int .i64 0))),Lo 5 (.asg (.k (.bool false)))]) (.seq (.reg [Lo 6 (.mv (.t 0)),Lo 7 (.ld 4 true (.t 3)),Lo 8 (.call 177 [.t 6,.t 7,.k (.fn 214 [])]),Lo 9 (.ext (.t 8) 0),Lo 10 (.ext (.t 8) 1),Lo 4 (.asg (.t 9)),Lo 5 (.asg (.t 10))]) .ret)⟩
theorem c176 : compFm Tryz.prog Tryz.f176 [1000000007] = some L176.er := by kernel_rfl
theorem g176 : isGo Tryz.prog 176 = true := by kernel_rfl
def s176 (P : Program) (a0 a1 : V) (S : St) (K : AE → St → Prop) : Prop :=
 effA S (.boxr (.k a1.plain.plain)) fun x1 S1 =>
 bnd (opV S1 (.ld 4 true (.k x1.plain))) fun x2 =>
 callA P 177 [a0.plain.plain.plain, x2.plain, (.fn 214 [])] S1 (fun x3 S2 =>
 bnd (opV S2 (.ext (.k x3.plain) 0)) fun x4 =>
 bnd (opV S2 (.ext (.k x3.plain) 1)) fun x5 =>
 K (.ret (.tup [x4.plain, x5.plain])) S2) (kp K)
theorem e176 : (fun (P : Program) (a0 a1 : V) (S : St) (K : AE → St → Prop) => lvc P L176.c (retL L176.rs K) (frame0 [a0, a1]) S) = s176 := by kernel_rfl
theorem t176 (a0 a1 : V) (r : AE) (h : ∀ S, s176 Tryz.prog a0 a1 S fun e S' => e = r ∧ S' = S) : Thr Tryz.prog 176 [a0, a1] r :=
 Thr_of_lvc (L := L176) hm Tryz.func176 g176 c176 (Nat.le_of_ble_eq_true rfl) fun S => by have := h S; rw [← e176] at this; exact this
def L177 : LF := ⟨49,[.tmp 6,.tmp 7],.seq (.reg [Lo 4 (.boxr (.t 1)),Lo 6 (.asg (.k (.int .i64 0))),Lo 7 (.asg (.k (.bool false)))]) (.seq (.reg [Lo 12 (.mv (.t 0)),Lo 13 (.len (.t 12)),Lo 8 (.asg (.t 13))]) (.seq (.reg [Lo 14 (.mv (.t 8)),Lo 9 (.asg (.k (.int .i64 0))),Lo 10 (.asg (.t 14))]) (.seqj [0,2,4,8,9] (.block 0 (.loop [0,2,4,8,9,10] (.seq (.seq (.reg [Lo 15 (.mv (.t 9)),Lo 16 (.mv (.t 10)),Lo 17 (.bin .lss (.t 15) (.t 16))]) (.cond (.t 17) .skip (.exit 0))) (.block 1 (.seq (.reg [Lo 18 (.mv (.t 9)),Lo 19 (.mv (.t 10)),Lo 20 (.bin .add (.t 18) (.t 19)),Lo 21 (.cvi .u64 (.t 20)),Lo 22 (.bin .shr (.t 21) (.k (.int .u64 1))),Lo 23 (.cvi .i64 (.t 22)),Lo 11 (.asg (.t 23))]) (.seq (.draw [Lo 24 (.mv (.t 2)),Lo 25 (.mv (.t 0)),Lo 26 (.mv (.t 11)),Lo 27 (.ia 4 (.t 25) (.t 26)),Lo 28 (.ld 4 true (.t 27)),Lo 29 (.ld 4 true (.t 4))] [Lo 30 (.callv (.t 24) [.t 28,.t 29]),Lo 31 (.bin .lss (.t 30) (.k (.int .i64 0)))]) (.cond (.t 31) (.reg [Lo 32 (.mv (.t 11)),Lo 33 (.bin .add (.t 32) (.k (.int .i64 1))),Lo 9 (.asg (.t 33))]) (.reg [Lo 34 (.mv (.t 11)),Lo 10 (.asg (.t 34))])))))))) (.seq (.draw [Lo 35 (.mv (.t 9)),Lo 36 (.mv (.t 9)),Lo 37 (.mv (.t 8)),Lo 38 (.bin .lss (.t 36) (.t 37)),Lo 39 (.mv (.t 38)),.grj 39 true [40,41,42,43,44,45,46,47] [Ro 40 (.mv (.t 2)),Ro 41 (.mv (.t 0)),Ro 42 (.mv (.t 9)),Ro 43 (.ia 4 (.t 41) (.t 42)),Ro 44 (.ld 4 true (.t 43)),Ro 45 (.ld 4 true (.t 4)),Ro 46 (.callv (.t 40) [.t 44,.t 45]),Ro 47 (.bin .eql (.t 46) (.k (.int .i64 0)))],Lo 48 (.pick (.t 39) (.t 47) (.k (.bool false))),Lo 6 (.asg (.t 35))] [Lo 7 (.asg (.t 48))]) .ret))))⟩
theorem c177 : compFm Tryz.prog Tryz.f177 [1000000007] = some L177.er := by kernel_rfl
theorem g177 : isGo Tryz.prog 177 = true := by kernel_rfl
def s177 (P : Program) (a0 a1 a2 : V) (S : St) (K : AE → St → Prop) : Prop :=
 effA S (.boxr (.k a1.plain.plain)) fun x1 S1 =>
 bnd (opV S1 (.len (.k a0.plain.plain.plain))) fun x2 =>
 gjn (fun j3 : V → V → V → V → V → St → Prop =>
 loop6 (fun R33 w35 w36 w37 w38 w39 w40 S4 =>
 bnd (opV S4 (.bin .lss (.k w39.plain.plain) (.k w40.plain.plain))) fun x41 =>
 brV x41.plain
 (bnd (opV S4 (.bin .add (.k w39.plain.plain) (.k w40.plain.plain))) fun x42 =>
 bnd (opV S4 (.cvi .u64 (.k x42.plain))) fun x43 =>
 bnd (opV S4 (.bin .shr (.k x43.plain) (.k (.int .u64 1)))) fun x44 =>
 bnd (opV S4 (.cvi .i64 (.k x44.plain))) fun x45 =>
 bnd (opV S4 (.ia 4 (.k w35.plain.plain) (.k x45.plain.plain))) fun x46 =>
 bnd (opV S4 (.ld 4 true (.k x46.plain))) fun x47 =>
 bnd (opV S4 (.ld 4 true (.k w37.plain))) fun x48 =>
 callvA P w36.plain.plain [x47.plain, x48.plain] S4 (fun x49 S5 =>
 bnd (opV S5 (.bin .lss (.k x49.plain) (.k (.int .i64 0)))) fun x50 =>
 brV x50.plain
 (bnd (opV S5 (.bin .add (.k x45.plain.plain) (.k (.int .i64 1)))) fun x51 =>
 R33 w35 w36 w37 w38 x51 w40 S5)
 (R33 w35 w36 w37 w38 w39 x45.plain S5)) (kp K))
 (j3 w35 w36 w37 w38 w39 S4))
 a0.plain a2.plain x1 x2 ((.int .i64 0)) x2.plain S1)
 (fun z4 z5 z6 z7 z8 S2 =>
 bnd (opV S2 (.bin .lss (.k z8.plain.plain) (.k z7.plain.plain))) fun x9 =>
 gjn (fun j18 : V → V → V → V → V → V → V → V → St → Prop =>
 gdV x9.plain true
 (bnd (opV S2 (.ia 4 (.k z4.plain.plain) (.k z8.plain.plain))) fun x28 =>
 bnd (opV S2 (.ld 4 true (.k x28.plain))) fun x29 =>
 bnd (opV S2 (.ld 4 true (.k z6.plain))) fun x30 =>
 callvP P z5.plain.plain [x29.plain, x30.plain] S2 (fun x31 =>
 bnd (opV S2 (.bin .eql (.k x31.plain) (.k (.int .i64 0)))) fun x32 =>
 j18 z5.plain z4.plain z8.plain x28 x29 x30 x31 x32 S2))
 (j18 V.undef V.undef V.undef V.undef V.undef V.undef V.undef V.undef S2))
 (fun y19 y20 y21 y22 y23 y24 y25 y26 S3 =>
 bnd (opV S2 (.pick (.k x9.plain.plain) (.k y26.plain) (.k (.bool false)))) fun x27 =>
 K (.ret (.tup [z8.plain.plain, x27.plain])) S3))
theorem e177 : (fun (P : Program) (a0 a1 a2 : V) (S : St) (K : AE → St → Prop) => lvc P L177.c (retL L177.rs K) (frame0 [a0, a1, a2]) S) = s177 := by kernel_rfl
theorem t177 (a0 a1 a2 : V) (r : AE) (h : ∀ S, s177 Tryz.prog a0 a1 a2 S fun e S' => e = r ∧ S' = S) : Thr Tryz.prog 177 [a0, a1, a2] r :=
 Thr_of_lvc (L := L177) hm Tryz.func177 g177 c177 (Nat.le_of_ble_eq_true rfl) fun S => by have := h S; rw [← e177] at this; exact this
def L214 : LF := ⟨11,[.tmp 4],.seq (.reg [Lo 2 (.boxr (.t 0)),Lo 3 (.boxr (.t 1)),Lo 4 (.asg (.k (.int .i64 0)))]) (.seq (.draw [Lo 5 (.fa 3 1 false (.t 2)),Lo 6 (.ld 1 false (.t 5)),Lo 7 (.ia 4 (.t 6) (.k (.int .i64 0))),Lo 8 (.ld 4 true (.t 7)),Lo 9 (.ld 4 true (.t 3))] [Lo 10 (.call 43 [.t 8,.t 9]),Lo 4 (.asg (.t 10))]) .ret)⟩
theorem c214 : compFm Tryz.prog Tryz.f214 [1000000007] = some L214.er := by kernel_rfl
theorem g214 : isGo Tryz.prog 214 = true := by kernel_rfl
def s214 (P : Program) (a0 a1 : V) (S : St) (K : AE → St → Prop) : Prop :=
 effA S (.boxr (.k a0.plain.plain)) fun x1 S1 =>
 effA S1 (.boxr (.k a1.plain.plain)) fun x2 S2 =>
 bnd (opV S2 (.fa 3 1 false (.k x1.plain))) fun x3 =>
 bnd (opV S2 (.ld 1 false (.k x3.plain))) fun x4 =>
 bnd (opV S2 (.ia 4 (.k x4.plain) (.k (.int .i64 0)))) fun x5 =>
 bnd (opV S2 (.ld 4 true (.k x5.plain))) fun x6 =>
 bnd (opV S2 (.ld 4 true (.k x2.plain))) fun x7 =>
 callA P 43 [x6.plain, x7.plain] S2 (fun x8 S3 =>
 K (.ret x8) S3) (kp K)
theorem e214 : (fun (P : Program) (a0 a1 : V) (S : St) (K : AE → St → Prop) => lvc P L214.c (retL L214.rs K) (frame0 [a0, a1]) S) = s214 := by kernel_rfl
theorem t214 (a0 a1 : V) (r : AE) (h : ∀ S, s214 Tryz.prog a0 a1 S fun e S' => e = r ∧ S' = S) : Thr Tryz.prog 214 [a0, a1] r :=
 Thr_of_lvc (L := L214) hm Tryz.func214 g214 c214 (Nat.le_of_ble_eq_true rfl) fun S => by have := h S; rw [← e214] at this; exact this
def L81 : LF := ⟨5,[.cell 2 4 true],.seq (.reg [Lo 2 (.new (.agg [.int .i64 0,.int .i64 0,.str [],.sl true 4 []]))]) (.seq (.reg [Lo 3 (.mv (.t 0)),Lo 4 (.mk [.int .i64 0,.int .i64 0,.str [],.sl true 4 []] [(0,1,(.k (.int .i64 3))),(3,1,(.t 3))]),.op ⟨none,.st 4 (.t 2) (.t 4),none⟩]) .ret)⟩
theorem c81 : compFm Tryz.prog Tryz.f81 [] = some L81.er := by kernel_rfl
theorem g81 : isGo Tryz.prog 81 = true := by kernel_rfl
def s81 (P : Program) (a0 : V) (S : St) (K : AE → St → Prop) : Prop :=
 effA S (.new (.agg [.int .i64 0,.int .i64 0,.str [],.sl true 4 []])) fun x1 S1 =>
 bnd (opV S1 (.mk [.int .i64 0,.int .i64 0,.str [],.sl true 4 []] [(0, 1, (.k (.int .i64 3))), (3, 1, (.k a0.plain.plain.plain))])) fun x2 =>
 effA S1 (.st 4 (.k x1.plain) (.k x2.plain)) fun x3 S2 =>
 bnd (opV S2 (.ld 4 true (.k x1.plain))) fun x4 => K (.ret x4) S2
theorem e81 : (fun (P : Program) (a0 : V) (S : St) (K : AE → St → Prop) => lvc P L81.c (retL L81.rs K) (frame0 [a0]) S) = s81 := by kernel_rfl
theorem t81 (a0 : V) (r : AE) (hr : ∀ p, r.refsB p) (h : ∀ S, s81 Tryz.prog a0 S fun e S' => e = r ∧ Own S S') : Thr Tryz.prog 81 [a0] r :=
 Thr_of_lvcB (L := L81) hm Tryz.func81 g81 c81 (Nat.le_of_ble_eq_true rfl) hr fun S => by have := h S; rw [← e81] at this; exact this
def L80 : LF := ⟨5,[.cell 2 4 true],.seq (.reg [Lo 2 (.new (.agg [.int .i64 0,.int .i64 0,.str [],.sl true 4 []]))]) (.seq (.reg [Lo 3 (.mv (.t 0)),Lo 4 (.mk [.int .i64 0,.int .i64 0,.str [],.sl true 4 []] [(1,1,(.t 3))]),.op ⟨none,.st 4 (.t 2) (.t 4),none⟩]) .ret)⟩
theorem c80 : compFm Tryz.prog Tryz.f80 [] = some L80.er := by kernel_rfl
theorem g80 : isGo Tryz.prog 80 = true := by kernel_rfl
def s80 (P : Program) (a0 : V) (S : St) (K : AE → St → Prop) : Prop :=
 effA S (.new (.agg [.int .i64 0,.int .i64 0,.str [],.sl true 4 []])) fun x1 S1 =>
 bnd (opV S1 (.mk [.int .i64 0,.int .i64 0,.str [],.sl true 4 []] [(1, 1, (.k a0.plain.plain.plain))])) fun x2 =>
 effA S1 (.st 4 (.k x1.plain) (.k x2.plain)) fun x3 S2 =>
 bnd (opV S2 (.ld 4 true (.k x1.plain))) fun x4 => K (.ret x4) S2
theorem e80 : (fun (P : Program) (a0 : V) (S : St) (K : AE → St → Prop) => lvc P L80.c (retL L80.rs K) (frame0 [a0]) S) = s80 := by kernel_rfl
theorem t80 (a0 : V) (r : AE) (hr : ∀ p, r.refsB p) (h : ∀ S, s80 Tryz.prog a0 S fun e S' => e = r ∧ Own S S') : Thr Tryz.prog 80 [a0] r :=
 Thr_of_lvcB (L := L80) hm Tryz.func80 g80 c80 (Nat.le_of_ble_eq_true rfl) hr fun S => by have := h S; rw [← e80] at this; exact this
def L82 : LF := ⟨5,[.cell 2 4 true],.seq (.reg [Lo 2 (.new (.agg [.int .i64 0,.int .i64 0,.str [],.sl true 4 []]))]) (.seq (.reg [Lo 3 (.mv (.t 0)),Lo 4 (.mk [.int .i64 0,.int .i64 0,.str [],.sl true 4 []] [(0,1,(.k (.int .i64 1))),(2,1,(.t 3))]),.op ⟨none,.st 4 (.t 2) (.t 4),none⟩]) .ret)⟩
theorem c82 : compFm Tryz.prog Tryz.f82 [] = some L82.er := by kernel_rfl
theorem g82 : isGo Tryz.prog 82 = true := by kernel_rfl
def s82 (P : Program) (a0 : V) (S : St) (K : AE → St → Prop) : Prop :=
 effA S (.new (.agg [.int .i64 0,.int .i64 0,.str [],.sl true 4 []])) fun x1 S1 =>
 bnd (opV S1 (.mk [.int .i64 0,.int .i64 0,.str [],.sl true 4 []] [(0, 1, (.k (.int .i64 1))), (2, 1, (.k a0.plain.plain.plain))])) fun x2 =>
 effA S1 (.st 4 (.k x1.plain) (.k x2.plain)) fun x3 S2 =>
 bnd (opV S2 (.ld 4 true (.k x1.plain))) fun x4 => K (.ret x4) S2
theorem e82 : (fun (P : Program) (a0 : V) (S : St) (K : AE → St → Prop) => lvc P L82.c (retL L82.rs K) (frame0 [a0]) S) = s82 := by kernel_rfl
theorem t82 (a0 : V) (r : AE) (hr : ∀ p, r.refsB p) (h : ∀ S, s82 Tryz.prog a0 S fun e S' => e = r ∧ Own S S') : Thr Tryz.prog 82 [a0] r :=
 Thr_of_lvcB (L := L82) hm Tryz.func82 g82 c82 (Nat.le_of_ble_eq_true rfl) hr fun S => by have := h S; rw [← e82] at this; exact this
def L45 : LF := ⟨11,[.cell 4 4 true],.seq (.reg [Lo 4 (.new (.agg [.int .i64 0,.int .i64 0,.str [],.sl true 4 []]))]) (.seq (.reg [Lo 5 (.mv (.t 0)),Lo 6 (.call 82 [.t 5]),Lo 7 (.mks 24 4 [.t 6]),Lo 8 (.mv (.t 1)),Lo 9 (.app 22 24 4 56 (.t 7) (.t 8)),Lo 10 (.call 81 [.t 9]),.op ⟨none,.st 4 (.t 4) (.t 10),none⟩]) .ret)⟩
theorem c45 : compFm Tryz.prog Tryz.f45 [] = some L45.er := by kernel_rfl
theorem g45 : isGo Tryz.prog 45 = true := by kernel_rfl
def s45 (P : Program) (a0 a1 : V) (S : St) (K : AE → St → Prop) : Prop :=
 effA S (.new (.agg [.int .i64 0,.int .i64 0,.str [],.sl true 4 []])) fun x1 S1 =>
 callA P 82 [a0.plain.plain.plain] S1 (fun x2 S2 =>
 effA S2 (.mks 24 4 [(.k x2.plain)]) fun x3 S3 =>
 bnd (appV Ops.std 24 4 56 x3 a1.plain.plain.plain) fun x4 =>
 callA P 81 [x4.plain] S3 (fun x5 S4 =>
 effA S4 (.st 4 (.k x1.plain) (.k x5.plain)) fun x6 S5 =>
 bnd (opV S5 (.ld 4 true (.k x1.plain))) fun x7 => K (.ret x7) S5) (kp K)) (kp K)
theorem e45 : (fun (P : Program) (a0 a1 : V) (S : St) (K : AE → St → Prop) => lvc P L45.c (retL L45.rs K) (frame0 [a0, a1]) S) = s45 := by kernel_rfl
theorem t45 (a0 a1 : V) (r : AE) (hr : ∀ p, r.refsB p) (h : ∀ S, s45 Tryz.prog a0 a1 S fun e S' => e = r ∧ Own S S') : Thr Tryz.prog 45 [a0, a1] r :=
 Thr_of_lvcB (L := L45) hm Tryz.func45 g45 c45 (Nat.le_of_ble_eq_true rfl) hr fun S => by have := h S; rw [← e45] at this; exact this
def L113 : LF := ⟨5,[.tmp 2],.seq (.reg [Lo 1 (.boxr (.t 0)),Lo 2 (.asg (.k (.int .i64 0)))]) (.seq (.reg [Lo 3 (.ld 4 true (.t 1)),Lo 4 (.call 137 [.t 3]),Lo 2 (.asg (.t 4))]) .ret)⟩
theorem c113 : compFm Tryz.prog Tryz.f113 [1000000007] = some L113.er := by kernel_rfl
theorem g113 : isGo Tryz.prog 113 = true := by kernel_rfl
def s113 (P : Program) (a0 : V) (S : St) (K : AE → St → Prop) : Prop :=
 effA S (.boxr (.k a0.plain.plain)) fun x1 S1 =>
 bnd (opV S1 (.ld 4 true (.k x1.plain))) fun x2 =>
 callA P 137 [x2.plain] S1 (fun x3 S2 =>
 K (.ret x3) S2) (kp K)
theorem e113 : (fun (P : Program) (a0 : V) (S : St) (K : AE → St → Prop) => lvc P L113.c (retL L113.rs K) (frame0 [a0]) S) = s113 := by kernel_rfl
theorem t113 (a0 : V) (r : AE) (h : ∀ S, s113 Tryz.prog a0 S fun e S' => e = r ∧ S' = S) : Thr Tryz.prog 113 [a0] r :=
 Thr_of_lvc (L := L113) hm Tryz.func113 g113 c113 (Nat.le_of_ble_eq_true rfl) fun S => by have := h S; rw [← e113] at this; exact this
def L137 : LF := ⟨19,[.tmp 2],.seq (.reg [Lo 1 (.boxr (.t 0)),Lo 2 (.asg (.k (.int .i64 0)))]) (.seq (.reg [Lo 3 (.asg (.k (.int .i64 1)))]) (.seqj [3] (.seq (.reg [Lo 6 (.ld 4 true (.t 1)),Lo 7 (.call 58 [.t 6]),Lo 8 (.len (.t 7)),Lo 9 (.mv (.k (.int .i64 0)))]) (.block 0 (.loop [3,7,8,9] (.seq (.reg [Lo 10 (.bin .lss (.t 9) (.t 8))]) (.seq (.cond (.t 10) .skip (.exit 0)) (.seq (.block 1 (.seq (.reg [Lo 11 (.ia 4 (.t 7) (.t 9)),Lo 12 (.ld 4 true (.t 11)),Lo 5 (.boxs 4 (.t 12))]) (.reg [Lo 13 (.mv (.t 3)),Lo 14 (.ld 4 true (.t 5)),Lo 15 (.call 137 [.t 14]),Lo 16 (.bin .add (.t 13) (.t 15)),Lo 3 (.asg (.t 16))]))) (.reg [Lo 17 (.bin .add (.t 9) (.k (.int .i64 1))),Lo 9 (.mv (.t 17))]))))))) (.seq (.reg [Lo 18 (.asg (.t 3)),Lo 2 (.asg (.t 18))]) .ret)))⟩
theorem c137 : compFm Tryz.prog Tryz.f137 [1000000007] = some L137.er := by kernel_rfl
theorem g137 : isGo Tryz.prog 137 = true := by kernel_rfl
def s137 (P : Program) (a0 : V) (S : St) (K : AE → St → Prop) : Prop :=
 effA S (.boxr (.k a0.plain.plain)) fun x1 S1 =>
 gjn (fun j2 : V → St → Prop =>
 bnd (opV S1 (.ld 4 true (.k x1.plain))) fun x4 =>
 callA P 58 [x4.plain] S1 (fun x5 S3 =>
 bnd (opV S3 (.len (.k x5.plain))) fun x6 =>
 loop4 (fun R7 w9 w10 w11 w12 S4 =>
 bnd (opV S4 (.bin .lss (.k w12.plain) (.k w11.plain))) fun x13 =>
 brV x13.plain
 (bnd (opV S4 (.ia 4 (.k w10.plain) (.k w12.plain))) fun x14 =>
 bnd (opV S4 (.ld 4 true (.k x14.plain))) fun x15 =>
 effA S4 (.boxs 4 (.k x15.plain)) fun x16 S5 =>
 bnd (opV S5 (.ld 4 true (.k x16.plain))) fun x17 =>
 callA P 137 [x17.plain] S5 (fun x18 S6 =>
 bnd (opV S6 (.bin .add (.k w9.plain.plain) (.k x18.plain))) fun x19 =>
 bnd (opV S6 (.bin .add (.k w12.plain) (.k (.int .i64 1)))) fun x20 =>
 R7 x19 w10 w11 x20.plain S6) (kp K))
 (j2 w9 S4))
 ((.int .i64 1)) x5 x6 ((.int .i64 0)) S3) (kp K))
 (fun z3 S2 =>
 K (.ret z3) S2)
theorem e137 : (fun (P : Program) (a0 : V) (S : St) (K : AE → St → Prop) => lvc P L137.c (retL L137.rs K) (frame0 [a0]) S) = s137 := by kernel_rfl
theorem t137 (a0 : V) (r : AE) (h : ∀ S, s137 Tryz.prog a0 S fun e S' => e = r ∧ S' = S) : Thr Tryz.prog 137 [a0] r :=
 Thr_of_lvc (L := L137) hm Tryz.func137 g137 c137 (Nat.le_of_ble_eq_true rfl) fun S => by have := h S; rw [← e137] at this; exact this
def L117 : LF := ⟨5,[],.seq (.reg [Lo 2 (.mv (.t 0)),Lo 3 (.un .not (.t 2))]) (.cond (.t 3) (.reg [Lo 4 (.call 140 [.k (.int .i64 1)])]) .skip)⟩
theorem c117 : compFm Tryz.prog Tryz.f117 [1000000007] = some L117.er := by kernel_rfl
theorem g117 : isGo Tryz.prog 117 = true := by kernel_rfl
def s117 (P : Program) (a0 : V) (S : St) (K : AE → St → Prop) : Prop :=
 bnd (opV S (.un .not (.k a0.plain.plain.plain))) fun x1 =>
 brV x1.plain
 (callA P 140 [(.int .i64 1)] S (fun x2 S1 =>
 K (.ret (.tup [])) S1) (kp K))
 (K (.ret (.tup [])) S)
theorem e117 : (fun (P : Program) (a0 : V) (S : St) (K : AE → St → Prop) => lvc P L117.c (retL L117.rs K) (frame0 [a0]) S) = s117 := by kernel_rfl
theorem t117 (a0 : V) (r : AE) (h : ∀ S, s117 Tryz.prog a0 S fun e S' => e = r ∧ S' = S) : Thr Tryz.prog 117 [a0] r :=
 Thr_of_lvc (L := L117) hm Tryz.func117 g117 c117 (Nat.le_of_ble_eq_true rfl) fun S => by have := h S; rw [← e117] at this; exact this
end Go.Pl.L

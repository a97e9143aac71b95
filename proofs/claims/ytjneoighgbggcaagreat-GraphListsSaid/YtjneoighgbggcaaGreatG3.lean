/- Printed by a program: what each Go function asks, and that this is enough (fourth part). -/
import Derived.Test.YtjneoighgbggcaaGreatB0
namespace Go.Sl
open Go Go.Proofs

/-- slices.partialInsertionSortCmpFunc[escutcheon/table.head] -/
def sh396 (x0 x1 x2 x3 : Value) (Q : Value → Heap → Prop) (H : Heap) : Prop :=
 ev (intV .add x1 (.int .i64 1)) fun v5 =>
 ∀ I6 : List Value → Heap → Prop, (∀ H7, ∀ x8, ∀ x9, ∀ x10, ∀ x11, ∀ x12, ∀ x13, 
 (ev (intV .lss x13 (.int .i64 5)) fun v14 =>
 Br v14 (
 ∀ K15 : List Value → Heap → Prop, (∀ H16, ∀ x17, ∀ x18, ∀ x19, ∀ x20, ∀ x21, ∀ x22, 
 (ev (intV .add x22 (.int .i64 1)) fun v23 =>
 I6 [x17, x18, x19, x20, x21, v23] H16) → K15 [x17, x18, x19, x20, x21, x22] H16) →
 ∀ I24 : List Value → Heap → Prop, (∀ H25, ∀ x26, ∀ x27, ∀ x28, ∀ x29, ∀ x30, ∀ x31, 
 (∀ K32 : List Value → Heap → Prop, (∀ H33, ∀ x34, ∀ x35, ∀ x36, ∀ x37, ∀ x38, ∀ x39, ∀ x40, 
 (Br x40 (
 ev (intV .add x38 (.int .i64 1)) fun v41 =>
 I24 [x34, x35, x36, x37, v41, x39] H33) (
 ev (intV .eql x38 x36) fun v42 =>
 Br v42 (
 Q (.bool true) H33) (
 ev (intV .sub x36 x35) fun v43 =>
 ev (intV .lss v43 (.int .i64 50)) fun v44 =>
 Br v44 (
 Q (.bool false) H33) (
 ev (intV .sub x38 (.int .i64 1)) fun v45 =>
 ev (intV .sub x38 (.int .i64 1)) fun v46 =>
 ev (ixS 6 x34 v46) fun v47 =>
 ev (ldn 6 H33 v47) fun v48 =>
 ev (ixS 6 x34 x38) fun v49 =>
 ev (ldn 6 H33 v49) fun v50 =>
 ev (ixS 6 x34 x38) fun v51 =>
 ev (sto 6 H33 v51 v48) fun H52 =>
 ev (ixS 6 x34 v45) fun v53 =>
 ev (sto 6 H52 v53 v50) fun H54 =>
 ∀ K55 : List Value → Heap → Prop, (∀ H56, ∀ x57, ∀ x58, ∀ x59, ∀ x60, ∀ x61, ∀ x62, 
 (ev (intV .sub x59 x61) fun v63 =>
 ev (intV .geq v63 (.int .i64 2)) fun v64 =>
 Br v64 (
 ev (intV .add x61 (.int .i64 1)) fun v65 =>
 ∀ I66 : List Value → Heap → Prop, (∀ H67, ∀ x68, ∀ x69, ∀ x70, ∀ x71, ∀ x72, ∀ x73, ∀ x74, 
 (ev (intV .lss x74 x70) fun v75 =>
 Br v75 (
 ev (ixS 6 x68 x74) fun v76 =>
 ev (ldn 6 H67 v76) fun v77 =>
 ev (intV .sub x74 (.int .i64 1)) fun v78 =>
 ev (ixS 6 x68 v78) fun v79 =>
 ev (ldn 6 H67 v79) fun v80 =>
 clW PP x71 [v77, v80] H67 fun v81 H82 =>
 ev (intV .lss v81 (.int .i64 0)) fun v83 =>
 ev (unV .not v83) fun v84 =>
 Br v84 (
 K15 [x68, x69, x70, x71, x72, x73] H82) (
 ev (intV .sub x74 (.int .i64 1)) fun v85 =>
 ev (intV .sub x74 (.int .i64 1)) fun v86 =>
 ev (ixS 6 x68 v86) fun v87 =>
 ev (ldn 6 H82 v87) fun v88 =>
 ev (ixS 6 x68 x74) fun v89 =>
 ev (ldn 6 H82 v89) fun v90 =>
 ev (ixS 6 x68 x74) fun v91 =>
 ev (sto 6 H82 v91 v88) fun H92 =>
 ev (ixS 6 x68 v85) fun v93 =>
 ev (sto 6 H92 v93 v90) fun H94 =>
 ev (intV .add x74 (.int .i64 1)) fun v95 =>
 I66 [x68, x69, x70, x71, x72, x73, v95] H94)) (
 K15 [x68, x69, x70, x71, x72, x73] H67)) → I66 [x68, x69, x70, x71, x72, x73, x74] H67) →
 I66 [x57, x58, x59, x60, x61, x62, v65] H56) (
 K15 [x57, x58, x59, x60, x61, x62] H56)) → K55 [x57, x58, x59, x60, x61, x62] H56) →
 ev (intV .sub x38 x35) fun v96 =>
 ev (intV .geq v96 (.int .i64 2)) fun v97 =>
 Br v97 (
 ev (intV .sub x38 (.int .i64 1)) fun v98 =>
 ∀ I99 : List Value → Heap → Prop, (∀ H100, ∀ x101, ∀ x102, ∀ x103, ∀ x104, ∀ x105, ∀ x106, ∀ x107, 
 (ev (intV .geq x107 (.int .i64 1)) fun v108 =>
 Br v108 (
 ev (ixS 6 x101 x107) fun v109 =>
 ev (ldn 6 H100 v109) fun v110 =>
 ev (intV .sub x107 (.int .i64 1)) fun v111 =>
 ev (ixS 6 x101 v111) fun v112 =>
 ev (ldn 6 H100 v112) fun v113 =>
 clW PP x104 [v110, v113] H100 fun v114 H115 =>
 ev (intV .lss v114 (.int .i64 0)) fun v116 =>
 ev (unV .not v116) fun v117 =>
 Br v117 (
 K55 [x101, x102, x103, x104, x105, x106] H115) (
 ev (intV .sub x107 (.int .i64 1)) fun v118 =>
 ev (intV .sub x107 (.int .i64 1)) fun v119 =>
 ev (ixS 6 x101 v119) fun v120 =>
 ev (ldn 6 H115 v120) fun v121 =>
 ev (ixS 6 x101 x107) fun v122 =>
 ev (ldn 6 H115 v122) fun v123 =>
 ev (ixS 6 x101 x107) fun v124 =>
 ev (sto 6 H115 v124 v121) fun H125 =>
 ev (ixS 6 x101 v118) fun v126 =>
 ev (sto 6 H125 v126 v123) fun H127 =>
 ev (intV .sub x107 (.int .i64 1)) fun v128 =>
 I99 [x101, x102, x103, x104, x105, x106, v128] H127)) (
 K55 [x101, x102, x103, x104, x105, x106] H100)) → I99 [x101, x102, x103, x104, x105, x106, x107] H100) →
 I99 [x34, x35, x36, x37, x38, x39, v98] H54) (
 K55 [x34, x35, x36, x37, x38, x39] H54))))) → K32 [x34, x35, x36, x37, x38, x39, x40] H33) →
 ev (intV .lss x30 x28) fun v129 =>
 Br v129 (
 ev (ixS 6 x26 x30) fun v130 =>
 ev (ldn 6 H25 v130) fun v131 =>
 ev (intV .sub x30 (.int .i64 1)) fun v132 =>
 ev (ixS 6 x26 v132) fun v133 =>
 ev (ldn 6 H25 v133) fun v134 =>
 clW PP x29 [v131, v134] H25 fun v135 H136 =>
 ev (intV .lss v135 (.int .i64 0)) fun v137 =>
 ev (unV .not v137) fun v138 =>
 K32 [x26, x27, x28, x29, x30, x31, v138] H136) (
 K32 [x26, x27, x28, x29, x30, x31, (.bool false)] H25)) → I24 [x26, x27, x28, x29, x30, x31] H25) →
 I24 [x8, x9, x10, x11, x12, x13] H7) (
 Q (.bool false) H7)) → I6 [x8, x9, x10, x11, x12, x13] H7) →
 I6 [x0, x1, x2, x3, v5, (.int .i64 0)] H
theorem T396 {x0 x1 x2 x3 : Value} {Q : Value → Heap → Prop} {H : Heap} (h : sh396 x0 x1 x2 x3 Q H) : T PP 396 [x0, x1, x2, x3] H Q :=
  T_of_eq eok foll (.s .n (.s .n (.s (.s .n (.k (.l [0, 1, 2, 3, 9, 10] (.s .n (.j [0, 1, 2, 3, 9, 10] (.k (.s (.k (.l [0, 1, 2, 3, 9, 10] (.s (.j [0, 1, 2, 3, 9, 10, 36] .n .n) .n))) (.s .n (.s .n (.s .n (.j [0, 1, 2, 3, 9, 10] (.s .n (.c (.s .n (.k (.l [0, 1, 2, 3, 9, 10, 11] .n))) .n)) (.s .n (.c (.s .n (.k (.l [0, 1, 2, 3, 9, 10, 12] .n))) .n)))))))) .n))))) .n))) Tryz.func396 (by kernel_rfl) (by kernel_rfl) (by kernel_rfl) h
/-- slices.partitionEqualCmpFunc[escutcheon/table.head] -/
def sh397 (x0 x1 x2 x3 x4 : Value) (Q : Value → Heap → Prop) (H : Heap) : Prop :=
 ev (ixS 6 x0 x3) fun v6 =>
 ev (ldn 6 H v6) fun v7 =>
 ev (ixS 6 x0 x1) fun v8 =>
 ev (ldn 6 H v8) fun v9 =>
 ev (ixS 6 x0 x1) fun v10 =>
 ev (sto 6 H v10 v7) fun H11 =>
 ev (ixS 6 x0 x3) fun v12 =>
 ev (sto 6 H11 v12 v9) fun H13 =>
 ev (intV .add x1 (.int .i64 1)) fun v14 =>
 ev (intV .sub x2 (.int .i64 1)) fun v15 =>
 ∀ I16 : List Value → Heap → Prop, (∀ H17, ∀ x18, ∀ x19, ∀ x20, ∀ x21, ∀ x22, 
 (∀ I23 : List Value → Heap → Prop, (∀ H24, ∀ x25, ∀ x26, ∀ x27, ∀ x28, ∀ x29, 
 (∀ K30 : List Value → Heap → Prop, (∀ H31, ∀ x32, ∀ x33, ∀ x34, ∀ x35, ∀ x36, ∀ x37, 
 (Br x37 (
 ev (intV .add x35 (.int .i64 1)) fun v38 =>
 I23 [x32, x33, x34, v38, x36] H31) (
 ∀ I39 : List Value → Heap → Prop, (∀ H40, ∀ x41, ∀ x42, ∀ x43, ∀ x44, ∀ x45, 
 (∀ K46 : List Value → Heap → Prop, (∀ H47, ∀ x48, ∀ x49, ∀ x50, ∀ x51, ∀ x52, ∀ x53, 
 (Br x53 (
 ev (intV .sub x52 (.int .i64 1)) fun v54 =>
 I39 [x48, x49, x50, x51, v54] H47) (
 ev (intV .gtr x51 x52) fun v55 =>
 Br v55 (
 Q x51 H47) (
 ev (ixS 6 x48 x52) fun v56 =>
 ev (ldn 6 H47 v56) fun v57 =>
 ev (ixS 6 x48 x51) fun v58 =>
 ev (ldn 6 H47 v58) fun v59 =>
 ev (ixS 6 x48 x51) fun v60 =>
 ev (sto 6 H47 v60 v57) fun H61 =>
 ev (ixS 6 x48 x52) fun v62 =>
 ev (sto 6 H61 v62 v59) fun H63 =>
 ev (intV .add x51 (.int .i64 1)) fun v64 =>
 ev (intV .sub x52 (.int .i64 1)) fun v65 =>
 I16 [x48, x49, x50, v64, v65] H63))) → K46 [x48, x49, x50, x51, x52, x53] H47) →
 ev (intV .leq x44 x45) fun v66 =>
 Br v66 (
 ev (ixS 6 x41 x42) fun v67 =>
 ev (ldn 6 H40 v67) fun v68 =>
 ev (ixS 6 x41 x45) fun v69 =>
 ev (ldn 6 H40 v69) fun v70 =>
 clW PP x43 [v68, v70] H40 fun v71 H72 =>
 ev (intV .lss v71 (.int .i64 0)) fun v73 =>
 K46 [x41, x42, x43, x44, x45, v73] H72) (
 K46 [x41, x42, x43, x44, x45, (.bool false)] H40)) → I39 [x41, x42, x43, x44, x45] H40) →
 I39 [x32, x33, x34, x35, x36] H31)) → K30 [x32, x33, x34, x35, x36, x37] H31) →
 ev (intV .leq x28 x29) fun v74 =>
 Br v74 (
 ev (ixS 6 x25 x26) fun v75 =>
 ev (ldn 6 H24 v75) fun v76 =>
 ev (ixS 6 x25 x28) fun v77 =>
 ev (ldn 6 H24 v77) fun v78 =>
 clW PP x27 [v76, v78] H24 fun v79 H80 =>
 ev (intV .lss v79 (.int .i64 0)) fun v81 =>
 ev (unV .not v81) fun v82 =>
 K30 [x25, x26, x27, x28, x29, v82] H80) (
 K30 [x25, x26, x27, x28, x29, (.bool false)] H24)) → I23 [x25, x26, x27, x28, x29] H24) →
 I23 [x18, x19, x20, x21, x22] H17) → I16 [x18, x19, x20, x21, x22] H17) →
 I16 [x0, x1, x4, v14, v15] H13
theorem T397 {x0 x1 x2 x3 x4 : Value} {Q : Value → Heap → Prop} {H : Heap} (h : sh397 x0 x1 x2 x3 x4 Q H) : T PP 397 [x0, x1, x2, x3, x4] H Q :=
  T_of_eq eok foll (.s .n (.s .n (.s .n (.s (.k (.l [0, 1, 4, 11, 12] (.k (.s (.k (.l [0, 1, 4, 11, 12] (.s (.j [0, 1, 4, 11, 12, 47] .n .n) .n))) (.s (.k (.l [0, 1, 4, 11, 12] (.s (.j [0, 1, 4, 11, 12, 65] .n .n) .n))) .n))))) .n)))) Tryz.func397 (by kernel_rfl) (by kernel_rfl) (by kernel_rfl) h
/-- slices.partitionCmpFunc[escutcheon/table.head] -/
def sh398 (x0 x1 x2 x3 x4 : Value) (Q : Value → Heap → Prop) (H : Heap) : Prop :=
 ev (ixS 6 x0 x3) fun v6 =>
 ev (ldn 6 H v6) fun v7 =>
 ev (ixS 6 x0 x1) fun v8 =>
 ev (ldn 6 H v8) fun v9 =>
 ev (ixS 6 x0 x1) fun v10 =>
 ev (sto 6 H v10 v7) fun H11 =>
 ev (ixS 6 x0 x3) fun v12 =>
 ev (sto 6 H11 v12 v9) fun H13 =>
 ev (intV .add x1 (.int .i64 1)) fun v14 =>
 ev (intV .sub x2 (.int .i64 1)) fun v15 =>
 ∀ I16 : List Value → Heap → Prop, (∀ H17, ∀ x18, ∀ x19, ∀ x20, ∀ x21, ∀ x22, 
 (∀ K23 : List Value → Heap → Prop, (∀ H24, ∀ x25, ∀ x26, ∀ x27, ∀ x28, ∀ x29, ∀ x30, 
 (Br x30 (
 ev (intV .add x28 (.int .i64 1)) fun v31 =>
 I16 [x25, x26, x27, v31, x29] H24) (
 ∀ I32 : List Value → Heap → Prop, (∀ H33, ∀ x34, ∀ x35, ∀ x36, ∀ x37, ∀ x38, 
 (∀ K39 : List Value → Heap → Prop, (∀ H40, ∀ x41, ∀ x42, ∀ x43, ∀ x44, ∀ x45, ∀ x46, 
 (Br x46 (
 ev (intV .sub x45 (.int .i64 1)) fun v47 =>
 I32 [x41, x42, x43, x44, v47] H40) (
 ev (intV .gtr x44 x45) fun v48 =>
 Br v48 (
 ev (ixS 6 x41 x42) fun v49 =>
 ev (ldn 6 H40 v49) fun v50 =>
 ev (ixS 6 x41 x45) fun v51 =>
 ev (ldn 6 H40 v51) fun v52 =>
 ev (ixS 6 x41 x45) fun v53 =>
 ev (sto 6 H40 v53 v50) fun H54 =>
 ev (ixS 6 x41 x42) fun v55 =>
 ev (sto 6 H54 v55 v52) fun H56 =>
 Q (.tuple #[x45, (.bool true)]) H56) (
 ev (ixS 6 x41 x45) fun v57 =>
 ev (ldn 6 H40 v57) fun v58 =>
 ev (ixS 6 x41 x44) fun v59 =>
 ev (ldn 6 H40 v59) fun v60 =>
 ev (ixS 6 x41 x44) fun v61 =>
 ev (sto 6 H40 v61 v58) fun H62 =>
 ev (ixS 6 x41 x45) fun v63 =>
 ev (sto 6 H62 v63 v60) fun H64 =>
 ev (intV .add x44 (.int .i64 1)) fun v65 =>
 ev (intV .sub x45 (.int .i64 1)) fun v66 =>
 ∀ I67 : List Value → Heap → Prop, (∀ H68, ∀ x69, ∀ x70, ∀ x71, ∀ x72, ∀ x73, 
 (∀ I74 : List Value → Heap → Prop, (∀ H75, ∀ x76, ∀ x77, ∀ x78, ∀ x79, ∀ x80, 
 (∀ K81 : List Value → Heap → Prop, (∀ H82, ∀ x83, ∀ x84, ∀ x85, ∀ x86, ∀ x87, ∀ x88, 
 (Br x88 (
 ev (intV .add x86 (.int .i64 1)) fun v89 =>
 I74 [x83, x84, x85, v89, x87] H82) (
 ∀ I90 : List Value → Heap → Prop, (∀ H91, ∀ x92, ∀ x93, ∀ x94, ∀ x95, ∀ x96, 
 (∀ K97 : List Value → Heap → Prop, (∀ H98, ∀ x99, ∀ x100, ∀ x101, ∀ x102, ∀ x103, ∀ x104, 
 (Br x104 (
 ev (intV .sub x103 (.int .i64 1)) fun v105 =>
 I90 [x99, x100, x101, x102, v105] H98) (
 ev (intV .gtr x102 x103) fun v106 =>
 Br v106 (
 ev (ixS 6 x99 x100) fun v107 =>
 ev (ldn 6 H98 v107) fun v108 =>
 ev (ixS 6 x99 x103) fun v109 =>
 ev (ldn 6 H98 v109) fun v110 =>
 ev (ixS 6 x99 x103) fun v111 =>
 ev (sto 6 H98 v111 v108) fun H112 =>
 ev (ixS 6 x99 x100) fun v113 =>
 ev (sto 6 H112 v113 v110) fun H114 =>
 Q (.tuple #[x103, (.bool false)]) H114) (
 ev (ixS 6 x99 x103) fun v115 =>
 ev (ldn 6 H98 v115) fun v116 =>
 ev (ixS 6 x99 x102) fun v117 =>
 ev (ldn 6 H98 v117) fun v118 =>
 ev (ixS 6 x99 x102) fun v119 =>
 ev (sto 6 H98 v119 v116) fun H120 =>
 ev (ixS 6 x99 x103) fun v121 =>
 ev (sto 6 H120 v121 v118) fun H122 =>
 ev (intV .add x102 (.int .i64 1)) fun v123 =>
 ev (intV .sub x103 (.int .i64 1)) fun v124 =>
 I67 [x99, x100, x101, v123, v124] H122))) → K97 [x99, x100, x101, x102, x103, x104] H98) →
 ev (intV .leq x95 x96) fun v125 =>
 Br v125 (
 ev (ixS 6 x92 x96) fun v126 =>
 ev (ldn 6 H91 v126) fun v127 =>
 ev (ixS 6 x92 x93) fun v128 =>
 ev (ldn 6 H91 v128) fun v129 =>
 clW PP x94 [v127, v129] H91 fun v130 H131 =>
 ev (intV .lss v130 (.int .i64 0)) fun v132 =>
 ev (unV .not v132) fun v133 =>
 K97 [x92, x93, x94, x95, x96, v133] H131) (
 K97 [x92, x93, x94, x95, x96, (.bool false)] H91)) → I90 [x92, x93, x94, x95, x96] H91) →
 I90 [x83, x84, x85, x86, x87] H82)) → K81 [x83, x84, x85, x86, x87, x88] H82) →
 ev (intV .leq x79 x80) fun v134 =>
 Br v134 (
 ev (ixS 6 x76 x79) fun v135 =>
 ev (ldn 6 H75 v135) fun v136 =>
 ev (ixS 6 x76 x77) fun v137 =>
 ev (ldn 6 H75 v137) fun v138 =>
 clW PP x78 [v136, v138] H75 fun v139 H140 =>
 ev (intV .lss v139 (.int .i64 0)) fun v141 =>
 K81 [x76, x77, x78, x79, x80, v141] H140) (
 K81 [x76, x77, x78, x79, x80, (.bool false)] H75)) → I74 [x76, x77, x78, x79, x80] H75) →
 I74 [x69, x70, x71, x72, x73] H68) → I67 [x69, x70, x71, x72, x73] H68) →
 I67 [x41, x42, x43, v65, v66] H64))) → K39 [x41, x42, x43, x44, x45, x46] H40) →
 ev (intV .leq x37 x38) fun v142 =>
 Br v142 (
 ev (ixS 6 x34 x38) fun v143 =>
 ev (ldn 6 H33 v143) fun v144 =>
 ev (ixS 6 x34 x35) fun v145 =>
 ev (ldn 6 H33 v145) fun v146 =>
 clW PP x36 [v144, v146] H33 fun v147 H148 =>
 ev (intV .lss v147 (.int .i64 0)) fun v149 =>
 ev (unV .not v149) fun v150 =>
 K39 [x34, x35, x36, x37, x38, v150] H148) (
 K39 [x34, x35, x36, x37, x38, (.bool false)] H33)) → I32 [x34, x35, x36, x37, x38] H33) →
 I32 [x25, x26, x27, x28, x29] H24)) → K23 [x25, x26, x27, x28, x29, x30] H24) →
 ev (intV .leq x21 x22) fun v151 =>
 Br v151 (
 ev (ixS 6 x18 x21) fun v152 =>
 ev (ldn 6 H17 v152) fun v153 =>
 ev (ixS 6 x18 x19) fun v154 =>
 ev (ldn 6 H17 v154) fun v155 =>
 clW PP x20 [v153, v155] H17 fun v156 H157 =>
 ev (intV .lss v156 (.int .i64 0)) fun v158 =>
 K23 [x18, x19, x20, x21, x22, v158] H157) (
 K23 [x18, x19, x20, x21, x22, (.bool false)] H17)) → I16 [x18, x19, x20, x21, x22] H17) →
 I16 [x0, x1, x4, v14, v15] H13
theorem T398 {x0 x1 x2 x3 x4 : Value} {Q : Value → Heap → Prop} {H : Heap} (h : sh398 x0 x1 x2 x3 x4 Q H) : T PP 398 [x0, x1, x2, x3, x4] H Q :=
  T_of_eq eok foll (.s .n (.s .n (.s .n (.s (.k (.l [0, 1, 4, 12, 13] (.s (.j [0, 1, 4, 12, 13, 47] .n .n) .n))) (.s (.k (.l [0, 1, 4, 12, 13] (.s (.j [0, 1, 4, 12, 13, 66] .n .n) .n))) (.s .n (.s .n (.s .n (.s .n (.s (.k (.l [0, 1, 4, 12, 13] (.k (.s (.k (.l [0, 1, 4, 12, 13] (.s (.j [0, 1, 4, 12, 13, 120] .n .n) .n))) (.s (.k (.l [0, 1, 4, 12, 13] (.s (.j [0, 1, 4, 12, 13, 139] .n .n) .n))) .n))))) .n)))))))))) Tryz.func398 (by kernel_rfl) (by kernel_rfl) (by kernel_rfl) h
/-- slices.IndexFunc[[]escutcheon/api.Hold,escutcheon/api.Hold] -/
def sh401 (x0 x1 : Value) (Q : Value → Heap → Prop) (H : Heap) : Prop :=
 ev (lenS x0) fun v3 =>
 ∀ I4 : List Value → Heap → Prop, (∀ H5, ∀ x6, ∀ x7, ∀ x8, ∀ x9, 
 (ev (intV .lss x9 x8) fun v10 =>
 Br v10 (
 ev (ixS 2 x6 x9) fun v11 =>
 ev (ldn 2 H5 v11) fun v12 =>
 clW PP x7 [v12] H5 fun v13 H14 =>
 Br v13 (
 Q x9 H14) (
 ev (intV .add x9 (.int .i64 1)) fun v15 =>
 I4 [x6, x7, x8, v15] H14)) (
 Q (.int .i64 (-1)) H5)) → I4 [x6, x7, x8, x9] H5) →
 I4 [x0, x1, v3, (.int .i64 0)] H
theorem T401 {x0 x1 : Value} {Q : Value → Heap → Prop} {H : Heap} (h : sh401 x0 x1 Q H) : T PP 401 [x0, x1] H Q :=
  T_of_eq eok foll (.s .n (.s (.s .n (.k (.l [0, 1, 7, 8] .n))) .n)) Tryz.func401 (by kernel_rfl) (by kernel_rfl) (by kernel_rfl) h
/-- escutcheon/group.find$1 -/
def sh402 (x0 x1 : Value) (Q : Value → Heap → Prop) (H : Heap) : Prop :=
 alW 121 (Value.cells x0).toList H fun v3 H4 =>
 ev (fldA 0 v3) fun v5 =>
 ev (ld1 H4 v5) fun v6 =>
 ev (ld1 H4 x1) fun v7 =>
 ev (intV .eql v6 v7) fun v8 =>
 Q v8 H4
theorem T402 {x0 x1 : Value} {Q : Value → Heap → Prop} {H : Heap} (h : sh402 x0 x1 Q H) : T PP 402 [x0, x1] H Q :=
  T_of_eq eok foll .n Tryz.func402 (by kernel_rfl) (by kernel_rfl) (by kernel_rfl) h
/-- escutcheon/bucket.Hash -/
def sh410 (x0 : Value) (Q : Value → Heap → Prop) (H : Heap) : Prop :=
 ∀ I2 : List Value → Heap → Prop, (∀ H3, ∀ x4, ∀ x5, ∀ x6, 
 (ev (intV .lss x6 (.int .i64 8)) fun v7 =>
 Br v7 (
 ev (intV .mul x5 (.int .u64 1099511628211)) fun v8 =>
 ev (intV .rem x4 (.int .u64 256)) fun v9 =>
 ev (intV .xor v8 v9) fun v10 =>
 ev (intV .quo x4 (.int .u64 256)) fun v11 =>
 ev (intV .add x6 (.int .i64 1)) fun v12 =>
 I2 [v11, v10, v12] H3) (
 Q x5 H3)) → I2 [x4, x5, x6] H3) →
 I2 [x0, (.int .u64 14695981039346656037), (.int .i64 0)] H
theorem T410 {x0 : Value} {Q : Value → Heap → Prop} {H : Heap} (h : sh410 x0 Q H) : T PP 410 [x0] H Q :=
  T_of_eq eok foll (.s .n (.s .n (.s (.s .n (.k (.l [0, 3, 4] .n))) .n))) Tryz.func410 (by kernel_rfl) (by kernel_rfl) (by kernel_rfl) h
/-- slices.ContainsFunc[[]escutcheon/api.Hold,escutcheon/api.Hold] -/
def sh411 (x0 x1 : Value) (Q : Value → Heap → Prop) (H : Heap) : Prop :=
 T PP 401 [x0, x1] H fun v3 H4 =>
 ev (intV .geq v3 (.int .i64 0)) fun v5 =>
 Q v5 H4
theorem T411 {x0 x1 : Value} {Q : Value → Heap → Prop} {H : Heap} (h : sh411 x0 x1 Q H) : T PP 411 [x0, x1] H Q :=
  T_of_eq eok foll .n Tryz.func411 (by kernel_rfl) (by kernel_rfl) (by kernel_rfl) h
/-- escutcheon/group.Goes$1 -/
def sh412 (x0 x1 x2 : Value) (Q : Value → Heap → Prop) (H : Heap) : Prop :=
 alW 121 (Value.cells x0).toList H fun v4 H5 =>
 ev (fldA 0 v4) fun v6 =>
 ev (ld1 H5 v6) fun v7 =>
 ev (ld1 H5 x1) fun v8 =>
 ev (intV .neq v7 v8) fun v9 =>
 Br v9 (
 ev (fldA 1 v4) fun v10 =>
 ev (ld1 H5 v10) fun v11 =>
 ev (ld1 H5 x2) fun v12 =>
 T PP 228 [v11, v12] H5 fun v13 H14 =>
 ev (unV .not v13) fun v15 =>
 Q v15 H14) (
 Q (.bool false) H5)
theorem T412 {x0 x1 x2 : Value} {Q : Value → Heap → Prop} {H : Heap} (h : sh412 x0 x1 x2 Q H) : T PP 412 [x0, x1, x2] H Q :=
  T_of_eq eok foll .n Tryz.func412 (by kernel_rfl) (by kernel_rfl) (by kernel_rfl) h
/-- slices.rotateRight[escutcheon/api.Wait] -/
def sh414 (x0 x1 : Value) (Q : Value → Heap → Prop) (H : Heap) : Prop :=
 ev (lenS x0) fun v3 =>
 ev (intV .sub v3 x1) fun v4 =>
 T PP 440 [x0, v4] H fun _ H6 =>
 Q (.tuple #[]) H6
theorem T414 {x0 x1 : Value} {Q : Value → Heap → Prop} {H : Heap} (h : sh414 x0 x1 Q H) : T PP 414 [x0, x1] H Q :=
  T_of_eq eok foll .n Tryz.func414 (by kernel_rfl) (by kernel_rfl) (by kernel_rfl) h
/-- slices.order2CmpFunc[escutcheon/api.Edge] -/
def sh418 (x0 x1 x2 x3 x4 : Value) (Q : Value → Heap → Prop) (H : Heap) : Prop :=
 ev (ixS 2 x0 x2) fun v6 =>
 ev (ldn 2 H v6) fun v7 =>
 ev (ixS 2 x0 x1) fun v8 =>
 ev (ldn 2 H v8) fun v9 =>
 clW PP x4 [v7, v9] H fun v10 H11 =>
 ev (intV .lss v10 (.int .i64 0)) fun v12 =>
 Br v12 (
 ev (nilV x3) fun v13 =>
 ev (ld1 H11 v13) fun v14 =>
 ev (intV .add v14 (.int .i64 1)) fun v15 =>
 ev (nilV x3) fun v16 =>
 ev (sto 1 H11 v16 v15) fun H17 =>
 Q (.tuple #[x2, x1]) H17) (
 Q (.tuple #[x1, x2]) H11)
theorem T418 {x0 x1 x2 x3 x4 : Value} {Q : Value → Heap → Prop} {H : Heap} (h : sh418 x0 x1 x2 x3 x4 Q H) : T PP 418 [x0, x1, x2, x3, x4] H Q :=
  T_of_eq eok foll .n Tryz.func418 (by kernel_rfl) (by kernel_rfl) (by kernel_rfl) h
/-- slices.order2Ordered[int] -/
def sh419 (x0 x1 x2 x3 : Value) (Q : Value → Heap → Prop) (H : Heap) : Prop :=
 ev (ixS 1 x0 x2) fun v5 =>
 ev (ld1 H v5) fun v6 =>
 ev (ixS 1 x0 x1) fun v7 =>
 ev (ld1 H v7) fun v8 =>
 T PP 309 [v6, v8] H fun v9 H10 =>
 Br v9 (
 ev (nilV x3) fun v11 =>
 ev (ld1 H10 v11) fun v12 =>
 ev (intV .add v12 (.int .i64 1)) fun v13 =>
 ev (nilV x3) fun v14 =>
 ev (sto 1 H10 v14 v13) fun H15 =>
 Q (.tuple #[x2, x1]) H15) (
 Q (.tuple #[x1, x2]) H10)
theorem T419 {x0 x1 x2 x3 : Value} {Q : Value → Heap → Prop} {H : Heap} (h : sh419 x0 x1 x2 x3 Q H) : T PP 419 [x0, x1, x2, x3] H Q :=
  T_of_eq eok foll .n Tryz.func419 (by kernel_rfl) (by kernel_rfl) (by kernel_rfl) h
/-- slices.siftDownCmpFunc[escutcheon/table.head] -/
def sh420 (x0 x1 x2 x3 x4 : Value) (Q : Value → Heap → Prop) (H : Heap) : Prop :=
 ∀ I6 : List Value → Heap → Prop, (∀ H7, ∀ x8, ∀ x9, ∀ x10, ∀ x11, ∀ x12, 
 (ev (intV .mul (.int .i64 2) x12) fun v13 =>
 ev (intV .add v13 (.int .i64 1)) fun v14 =>
 ev (intV .geq v14 x9) fun v15 =>
 Br v15 (
 Q (.tuple #[]) H7) (
 ∀ K16 : List Value → Heap → Prop, (∀ H17, ∀ x18, ∀ x19, ∀ x20, ∀ x21, ∀ x22, ∀ x23, 
 (ev (intV .add x20 x22) fun v24 =>
 ev (ixS 6 x18 v24) fun v25 =>
 ev (ldn 6 H17 v25) fun v26 =>
 ev (intV .add x20 x23) fun v27 =>
 ev (ixS 6 x18 v27) fun v28 =>
 ev (ldn 6 H17 v28) fun v29 =>
 clW PP x21 [v26, v29] H17 fun v30 H31 =>
 ev (intV .lss v30 (.int .i64 0)) fun v32 =>
 ev (unV .not v32) fun v33 =>
 Br v33 (
 Q (.tuple #[]) H31) (
 ev (intV .add x20 x22) fun v34 =>
 ev (intV .add x20 x23) fun v35 =>
 ev (intV .add x20 x23) fun v36 =>
 ev (ixS 6 x18 v36) fun v37 =>
 ev (ldn 6 H31 v37) fun v38 =>
 ev (intV .add x20 x22) fun v39 =>
 ev (ixS 6 x18 v39) fun v40 =>
 ev (ldn 6 H31 v40) fun v41 =>
 ev (ixS 6 x18 v34) fun v42 =>
 ev (sto 6 H31 v42 v38) fun H43 =>
 ev (ixS 6 x18 v35) fun v44 =>
 ev (sto 6 H43 v44 v41) fun H45 =>
 I6 [x18, x19, x20, x21, x23] H45)) → K16 [x18, x19, x20, x21, x22, x23] H17) →
 ∀ K46 : List Value → Heap → Prop, (∀ H47, ∀ x48, ∀ x49, ∀ x50, ∀ x51, ∀ x52, ∀ x53, ∀ x54, 
 (Br x54 (
 ev (intV .add x53 (.int .i64 1)) fun v55 =>
 K16 [x48, x49, x50, x51, x52, v55] H47) (
 K16 [x48, x49, x50, x51, x52, x53] H47)) → K46 [x48, x49, x50, x51, x52, x53, x54] H47) →
 ev (intV .add v14 (.int .i64 1)) fun v56 =>
 ev (intV .lss v56 x9) fun v57 =>
 Br v57 (
 ev (intV .add x10 v14) fun v58 =>
 ev (ixS 6 x8 v58) fun v59 =>
 ev (ldn 6 H7 v59) fun v60 =>
 ev (intV .add x10 v14) fun v61 =>
 ev (intV .add v61 (.int .i64 1)) fun v62 =>
 ev (ixS 6 x8 v62) fun v63 =>
 ev (ldn 6 H7 v63) fun v64 =>
 clW PP x11 [v60, v64] H7 fun v65 H66 =>
 ev (intV .lss v65 (.int .i64 0)) fun v67 =>
 K46 [x8, x9, x10, x11, x12, v14, v67] H66) (
 K46 [x8, x9, x10, x11, x12, v14, (.bool false)] H7))) → I6 [x8, x9, x10, x11, x12] H7) →
 I6 [x0, x2, x3, x4, x1] H
theorem T420 {x0 x1 x2 x3 x4 : Value} {Q : Value → Heap → Prop} {H : Heap} (h : sh420 x0 x1 x2 x3 x4 Q H) : T PP 420 [x0, x1, x2, x3, x4] H Q :=
  T_of_eq eok foll (.s .n (.k (.l [0, 2, 3, 4, 10] (.k (.s .n (.s .n (.j [0, 2, 3, 4, 10, 11] (.j [0, 2, 3, 4, 10, 11, 40] .n .n) .n))))))) Tryz.func420 (by kernel_rfl) (by kernel_rfl) (by kernel_rfl) h
/-- slices.medianAdjacentCmpFunc[escutcheon/table.head] -/
def sh421 (x0 x1 x2 x3 : Value) (Q : Value → Heap → Prop) (H : Heap) : Prop :=
 ev (intV .sub x1 (.int .i64 1)) fun v5 =>
 ev (intV .add x1 (.int .i64 1)) fun v6 =>
 T PP 422 [x0, v5, x1, v6, x2, x3] H fun v7 H8 =>
 Q v7 H8
theorem T421 {x0 x1 x2 x3 : Value} {Q : Value → Heap → Prop} {H : Heap} (h : sh421 x0 x1 x2 x3 Q H) : T PP 421 [x0, x1, x2, x3] H Q :=
  T_of_eq eok foll .n Tryz.func421 (by kernel_rfl) (by kernel_rfl) (by kernel_rfl) h
/-- slices.medianCmpFunc[escutcheon/table.head] -/
def sh422 (x0 x1 x2 x3 x4 x5 : Value) (Q : Value → Heap → Prop) (H : Heap) : Prop :=
 T PP 441 [x0, x1, x2, x4, x5] H fun v7 H8 =>
 ev (extrV 0 v7) fun v9 =>
 ev (extrV 1 v7) fun v10 =>
 T PP 441 [x0, v10, x3, x4, x5] H8 fun v11 H12 =>
 ev (extrV 0 v11) fun v13 =>
 ev (extrV 1 v11) fun _ =>
 T PP 441 [x0, v9, v13, x4, x5] H12 fun v15 H16 =>
 ev (extrV 0 v15) fun _ =>
 ev (extrV 1 v15) fun v18 =>
 Q v18 H16
theorem T422 {x0 x1 x2 x3 x4 x5 : Value} {Q : Value → Heap → Prop} {H : Heap} (h : sh422 x0 x1 x2 x3 x4 x5 Q H) : T PP 422 [x0, x1, x2, x3, x4, x5] H Q :=
  T_of_eq eok foll .n Tryz.func422 (by kernel_rfl) (by kernel_rfl) (by kernel_rfl) h
/-- slices.rotateLeft[escutcheon/api.Wait] -/
def sh440 (x0 x1 : Value) (Q : Value → Heap → Prop) (H : Heap) : Prop :=
 ev (slV 4 x0 none (some x1) none) fun v3 =>
 T PP 449 [v3] H fun _ H5 =>
 ev (slV 4 x0 (some x1) none none) fun v6 =>
 T PP 449 [v6] H5 fun _ H8 =>
 T PP 449 [x0] H8 fun _ H10 =>
 Q (.tuple #[]) H10
theorem T440 {x0 x1 : Value} {Q : Value → Heap → Prop} {H : Heap} (h : sh440 x0 x1 Q H) : T PP 440 [x0, x1] H Q :=
  T_of_eq eok foll .n Tryz.func440 (by kernel_rfl) (by kernel_rfl) (by kernel_rfl) h
/-- slices.order2CmpFunc[escutcheon/table.head] -/
def sh441 (x0 x1 x2 x3 x4 : Value) (Q : Value → Heap → Prop) (H : Heap) : Prop :=
 ev (ixS 6 x0 x2) fun v6 =>
 ev (ldn 6 H v6) fun v7 =>
 ev (ixS 6 x0 x1) fun v8 =>
 ev (ldn 6 H v8) fun v9 =>
 clW PP x4 [v7, v9] H fun v10 H11 =>
 ev (intV .lss v10 (.int .i64 0)) fun v12 =>
 Br v12 (
 ev (nilV x3) fun v13 =>
 ev (ld1 H11 v13) fun v14 =>
 ev (intV .add v14 (.int .i64 1)) fun v15 =>
 ev (nilV x3) fun v16 =>
 ev (sto 1 H11 v16 v15) fun H17 =>
 Q (.tuple #[x2, x1]) H17) (
 Q (.tuple #[x1, x2]) H11)
theorem T441 {x0 x1 x2 x3 x4 : Value} {Q : Value → Heap → Prop} {H : Heap} (h : sh441 x0 x1 x2 x3 x4 Q H) : T PP 441 [x0, x1, x2, x3, x4] H Q :=
  T_of_eq eok foll .n Tryz.func441 (by kernel_rfl) (by kernel_rfl) (by kernel_rfl) h
/-- slices.Reverse[[]escutcheon/api.Wait,escutcheon/api.Wait] -/
def sh449 (x0 : Value) (Q : Value → Heap → Prop) (H : Heap) : Prop :=
 ev (lenS x0) fun v2 =>
 ev (intV .sub v2 (.int .i64 1)) fun v3 =>
 ∀ I4 : List Value → Heap → Prop, (∀ H5, ∀ x6, ∀ x7, ∀ x8, 
 (ev (intV .lss x7 x8) fun v9 =>
 Br v9 (
 ev (ixS 4 x6 x8) fun v10 =>
 ev (ldn 4 H5 v10) fun v11 =>
 ev (ixS 4 x6 x7) fun v12 =>
 ev (ldn 4 H5 v12) fun v13 =>
 ev (ixS 4 x6 x7) fun v14 =>
 ev (sto 4 H5 v14 v11) fun H15 =>
 ev (ixS 4 x6 x8) fun v16 =>
 ev (sto 4 H15 v16 v13) fun H17 =>
 ev (intV .add x7 (.int .i64 1)) fun v18 =>
 ev (intV .sub x8 (.int .i64 1)) fun v19 =>
 I4 [x6, v18, v19] H17) (
 Q (.tuple #[]) H5)) → I4 [x6, x7, x8] H5) →
 I4 [x0, (.int .i64 0), v3] H
theorem T449 {x0 : Value} {Q : Value → Heap → Prop} {H : Heap} (h : sh449 x0 Q H) : T PP 449 [x0] H Q :=
  T_of_eq eok foll (.s .n (.k (.l [0, 2, 3] .n))) Tryz.func449 (by kernel_rfl) (by kernel_rfl) (by kernel_rfl) h
end Go.Sl

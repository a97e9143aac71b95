/- Printed by a program: what each Go function asks, and that this is enough (third part). -/
import Derived.Test.YtjneoighgbggcaaGreatB0
namespace Go.Sl
open Go Go.Proofs

/-- slices.insertionSortOrdered[int] -/
def sh303 (x0 x1 x2 : Value) (Q : Value → Heap → Prop) (H : Heap) : Prop :=
 ev (intV .add x1 (.int .i64 1)) fun v4 =>
 ∀ I5 : List Value → Heap → Prop, (∀ H6, ∀ x7, ∀ x8, ∀ x9, ∀ x10, 
 (ev (intV .lss x10 x9) fun v11 =>
 Br v11 (
 ∀ I12 : List Value → Heap → Prop, (∀ H13, ∀ x14, ∀ x15, ∀ x16, ∀ x17, ∀ x18, 
 (∀ K19 : List Value → Heap → Prop, (∀ H20, ∀ x21, ∀ x22, ∀ x23, ∀ x24, ∀ x25, ∀ x26, 
 (Br x26 (
 ev (intV .sub x25 (.int .i64 1)) fun v27 =>
 ev (intV .sub x25 (.int .i64 1)) fun v28 =>
 ev (ixS 1 x21 v28) fun v29 =>
 ev (ld1 H20 v29) fun v30 =>
 ev (ixS 1 x21 x25) fun v31 =>
 ev (ld1 H20 v31) fun v32 =>
 ev (ixS 1 x21 x25) fun v33 =>
 ev (sto 1 H20 v33 v30) fun H34 =>
 ev (ixS 1 x21 v27) fun v35 =>
 ev (sto 1 H34 v35 v32) fun H36 =>
 ev (intV .sub x25 (.int .i64 1)) fun v37 =>
 I12 [x21, x22, x23, x24, v37] H36) (
 ev (intV .add x24 (.int .i64 1)) fun v38 =>
 I5 [x21, x22, x23, v38] H20)) → K19 [x21, x22, x23, x24, x25, x26] H20) →
 ev (intV .gtr x18 x15) fun v39 =>
 Br v39 (
 ev (ixS 1 x14 x18) fun v40 =>
 ev (ld1 H13 v40) fun v41 =>
 ev (intV .sub x18 (.int .i64 1)) fun v42 =>
 ev (ixS 1 x14 v42) fun v43 =>
 ev (ld1 H13 v43) fun v44 =>
 T PP 309 [v41, v44] H13 fun v45 H46 =>
 K19 [x14, x15, x16, x17, x18, v45] H46) (
 K19 [x14, x15, x16, x17, x18, (.bool false)] H13)) → I12 [x14, x15, x16, x17, x18] H13) →
 I12 [x7, x8, x9, x10, x10] H6) (
 Q (.tuple #[]) H6)) → I5 [x7, x8, x9, x10] H6) →
 I5 [x0, x1, x2, v4] H
theorem T303 {x0 x1 x2 : Value} {Q : Value → Heap → Prop} {H : Heap} (h : sh303 x0 x1 x2 Q H) : T PP 303 [x0, x1, x2] H Q :=
  T_of_eq eok foll (.s .n (.k (.l [0, 1, 2, 6] (.s .n (.s (.k (.s .n (.k (.l [0, 1, 2, 6, 7] (.s (.j [0, 1, 2, 6, 7, 30] .n .n) .n))))) .n))))) Tryz.func303 (by kernel_rfl) (by kernel_rfl) (by kernel_rfl) h
/-- slices.heapSortOrdered[int] -/
def sh304 (x0 x1 x2 : Value) (Q : Value → Heap → Prop) (H : Heap) : Prop :=
 ev (intV .sub x2 x1) fun v4 =>
 ev (intV .sub v4 (.int .i64 1)) fun v5 =>
 ev (intV .quo v5 (.int .i64 2)) fun v6 =>
 ∀ I7 : List Value → Heap → Prop, (∀ H8, ∀ x9, ∀ x10, ∀ x11, ∀ x12, ∀ x13, 
 (ev (intV .geq x13 (.int .i64 0)) fun v14 =>
 Br v14 (
 T PP 382 [x9, x13, x12, x10] H8 fun _ H16 =>
 ev (intV .sub x13 (.int .i64 1)) fun v17 =>
 I7 [x9, x10, x11, x12, v17] H16) (
 ev (intV .sub x12 (.int .i64 1)) fun v18 =>
 ∀ I19 : List Value → Heap → Prop, (∀ H20, ∀ x21, ∀ x22, ∀ x23, ∀ x24, 
 (ev (intV .geq x24 (.int .i64 0)) fun v25 =>
 Br v25 (
 ev (intV .add x22 x24) fun v26 =>
 ev (intV .add x22 x24) fun v27 =>
 ev (ixS 1 x21 v27) fun v28 =>
 ev (ld1 H20 v28) fun v29 =>
 ev (ixS 1 x21 x22) fun v30 =>
 ev (ld1 H20 v30) fun v31 =>
 ev (ixS 1 x21 x22) fun v32 =>
 ev (sto 1 H20 v32 v29) fun H33 =>
 ev (ixS 1 x21 v26) fun v34 =>
 ev (sto 1 H33 v34 v31) fun H35 =>
 T PP 382 [x21, x23, x24, x22] H35 fun _ H37 =>
 ev (intV .sub x24 (.int .i64 1)) fun v38 =>
 I19 [x21, x22, x23, v38] H37) (
 Q (.tuple #[]) H20)) → I19 [x21, x22, x23, x24] H20) →
 I19 [x9, x10, x11, v18] H8)) → I7 [x9, x10, x11, x12, x13] H8) →
 I7 [x0, x1, (.int .i64 0), v4, v6] H
theorem T304 {x0 x1 x2 : Value} {Q : Value → Heap → Prop} {H : Heap} (h : sh304 x0 x1 x2 Q H) : T PP 304 [x0, x1, x2] H Q :=
  T_of_eq eok foll (.s .n (.s .n (.s .n (.s (.s .n (.k (.l [0, 6, 7, 8, 9] .n))) (.s .n (.k (.l [0, 6, 7, 10] .n))))))) Tryz.func304 (by kernel_rfl) (by kernel_rfl) (by kernel_rfl) h
/-- slices.breakPatternsOrdered[int] -/
def sh305 (x0 x1 x2 : Value) (Q : Value → Heap → Prop) (H : Heap) : Prop :=
 ev (intV .sub x2 x1) fun v4 =>
 ev (intV .geq v4 (.int .i64 8)) fun v5 =>
 Br v5 (
 ev (convV .u64 v4) fun v6 =>
 alW 410 [(.int .u64 0)] H fun v7 H8 =>
 ev (sto 1 H8 v7 v6) fun H9 =>
 T PP 378 [v4] H9 fun v10 H11 =>
 ev (intV .quo v4 (.int .i64 4)) fun v12 =>
 ev (intV .mul v12 (.int .i64 2)) fun v13 =>
 ev (intV .add x1 v13) fun v14 =>
 ev (intV .sub v14 (.int .i64 1)) fun v15 =>
 ∀ I16 : List Value → Heap → Prop, (∀ H17, ∀ x18, ∀ x19, ∀ x20, ∀ x21, ∀ x22, ∀ x23, 
 (ev (intV .quo x20 (.int .i64 4)) fun v24 =>
 ev (intV .mul v24 (.int .i64 2)) fun v25 =>
 ev (intV .add x19 v25) fun v26 =>
 ev (intV .add v26 (.int .i64 1)) fun v27 =>
 ev (intV .leq x23 v27) fun v28 =>
 Br v28 (
 T PP 379 [x21] H17 fun v29 H30 =>
 ev (intV .sub x22 (.int .u64 1)) fun v31 =>
 ev (intV .and v29 v31) fun v32 =>
 ev (convV .i64 v32) fun v33 =>
 ∀ K34 : List Value → Heap → Prop, (∀ H35, ∀ x36, ∀ x37, ∀ x38, ∀ x39, ∀ x40, ∀ x41, ∀ x42, 
 (ev (intV .add x37 x42) fun v43 =>
 ev (intV .add x37 x42) fun v44 =>
 ev (ixS 1 x36 v44) fun v45 =>
 ev (ld1 H35 v45) fun v46 =>
 ev (ixS 1 x36 x41) fun v47 =>
 ev (ld1 H35 v47) fun v48 =>
 ev (ixS 1 x36 x41) fun v49 =>
 ev (sto 1 H35 v49 v46) fun H50 =>
 ev (ixS 1 x36 v43) fun v51 =>
 ev (sto 1 H50 v51 v48) fun H52 =>
 ev (intV .add x41 (.int .i64 1)) fun v53 =>
 I16 [x36, x37, x38, x39, x40, v53] H52) → K34 [x36, x37, x38, x39, x40, x41, x42] H35) →
 ev (intV .geq v33 x20) fun v54 =>
 Br v54 (
 ev (intV .sub v33 x20) fun v55 =>
 K34 [x18, x19, x20, x21, x22, x23, v55] H30) (
 K34 [x18, x19, x20, x21, x22, x23, v33] H30)) (
 Q (.tuple #[]) H17)) → I16 [x18, x19, x20, x21, x22, x23] H17) →
 I16 [x0, x1, v4, v7, v10, v15] H11) (
 Q (.tuple #[]) H)
theorem T305 {x0 x1 x2 : Value} {Q : Value → Heap → Prop} {H : Heap} (h : sh305 x0 x1 x2 Q H) : T PP 305 [x0, x1, x2] H Q :=
  T_of_eq eok foll (.s .n (.s .n (.c (.s .n (.s .n (.s .n (.k (.l [0, 1, 6, 7, 8, 9] (.s .n (.s (.k (.s .n (.j [0, 1, 6, 7, 8, 9, 10] .n .n))) .n))))))) .n))) Tryz.func305 (by kernel_rfl) (by kernel_rfl) (by kernel_rfl) h
/-- slices.choosePivotOrdered[int] -/
def sh306 (x0 x1 x2 : Value) (Q : Value → Heap → Prop) (H : Heap) : Prop :=
 ev (intV .sub x2 x1) fun v4 =>
 alW 3 [(.int .i64 0)] H fun v5 H6 =>
 ev (intV .quo v4 (.int .i64 4)) fun v7 =>
 ev (intV .mul v7 (.int .i64 1)) fun v8 =>
 ev (intV .add x1 v8) fun v9 =>
 ev (intV .quo v4 (.int .i64 4)) fun v10 =>
 ev (intV .mul v10 (.int .i64 2)) fun v11 =>
 ev (intV .add x1 v11) fun v12 =>
 ev (intV .quo v4 (.int .i64 4)) fun v13 =>
 ev (intV .mul v13 (.int .i64 3)) fun v14 =>
 ev (intV .add x1 v14) fun v15 =>
 ∀ K16 : List Value → Heap → Prop, (∀ H17, ∀ x18, ∀ x19, 
 (ev (ld1 H17 x18) fun v20 =>
 ev (intV .eql v20 (.int .i64 0)) fun v21 =>
 Br v21 (
 Q (.tuple #[x19, (.int .i64 1)]) H17) (
 ev (intV .eql v20 (.int .i64 12)) fun v22 =>
 Br v22 (
 Q (.tuple #[x19, (.int .i64 2)]) H17) (
 Q (.tuple #[x19, (.int .i64 0)]) H17))) → K16 [x18, x19] H17) →
 ev (intV .geq v4 (.int .i64 8)) fun v23 =>
 Br v23 (
 ∀ K24 : List Value → Heap → Prop, (∀ H25, ∀ x26, ∀ x27, ∀ x28, ∀ x29, ∀ x30, 
 (T PP 384 [x26, x28, x29, x30, x27] H25 fun v31 H32 =>
 K16 [x27, v31] H32) → K24 [x26, x27, x28, x29, x30] H25) →
 ev (intV .geq v4 (.int .i64 50)) fun v33 =>
 Br v33 (
 T PP 383 [x0, v9, v5] H6 fun v34 H35 =>
 T PP 383 [x0, v12, v5] H35 fun v36 H37 =>
 T PP 383 [x0, v15, v5] H37 fun v38 H39 =>
 K24 [x0, v5, v34, v36, v38] H39) (
 K24 [x0, v5, v9, v12, v15] H6)) (
 K16 [v5, v12] H6)
theorem T306 {x0 x1 x2 : Value} {Q : Value → Heap → Prop} {H : Heap} (h : sh306 x0 x1 x2 Q H) : T PP 306 [x0, x1, x2] H Q :=
  T_of_eq eok foll (.s .n (.s .n (.s .n (.s .n (.s .n (.s .n (.j [9, 11] (.s .n (.c (.j [0, 9, 10, 11, 12] .n .n) .n)) .n))))))) Tryz.func306 (by kernel_rfl) (by kernel_rfl) (by kernel_rfl) h
/-- slices.reverseRangeOrdered[int] -/
def sh307 (x0 x1 x2 : Value) (Q : Value → Heap → Prop) (H : Heap) : Prop :=
 ev (intV .sub x2 (.int .i64 1)) fun v4 =>
 ∀ I5 : List Value → Heap → Prop, (∀ H6, ∀ x7, ∀ x8, ∀ x9, 
 (ev (intV .lss x8 x9) fun v10 =>
 Br v10 (
 ev (ixS 1 x7 x9) fun v11 =>
 ev (ld1 H6 v11) fun v12 =>
 ev (ixS 1 x7 x8) fun v13 =>
 ev (ld1 H6 v13) fun v14 =>
 ev (ixS 1 x7 x8) fun v15 =>
 ev (sto 1 H6 v15 v12) fun H16 =>
 ev (ixS 1 x7 x9) fun v17 =>
 ev (sto 1 H16 v17 v14) fun H18 =>
 ev (intV .add x8 (.int .i64 1)) fun v19 =>
 ev (intV .sub x9 (.int .i64 1)) fun v20 =>
 I5 [x7, v19, v20] H18) (
 Q (.tuple #[]) H6)) → I5 [x7, x8, x9] H6) →
 I5 [x0, x1, v4] H
theorem T307 {x0 x1 x2 : Value} {Q : Value → Heap → Prop} {H : Heap} (h : sh307 x0 x1 x2 Q H) : T PP 307 [x0, x1, x2] H Q :=
  T_of_eq eok foll (.s .n (.s .n (.k (.l [0, 6, 7] .n)))) Tryz.func307 (by kernel_rfl) (by kernel_rfl) (by kernel_rfl) h
/-- slices.partialInsertionSortOrdered[int] -/
def sh308 (x0 x1 x2 : Value) (Q : Value → Heap → Prop) (H : Heap) : Prop :=
 ev (intV .add x1 (.int .i64 1)) fun v4 =>
 ∀ I5 : List Value → Heap → Prop, (∀ H6, ∀ x7, ∀ x8, ∀ x9, ∀ x10, ∀ x11, 
 (ev (intV .lss x11 (.int .i64 5)) fun v12 =>
 Br v12 (
 ∀ K13 : List Value → Heap → Prop, (∀ H14, ∀ x15, ∀ x16, ∀ x17, ∀ x18, ∀ x19, 
 (ev (intV .add x19 (.int .i64 1)) fun v20 =>
 I5 [x15, x16, x17, x18, v20] H14) → K13 [x15, x16, x17, x18, x19] H14) →
 ∀ I21 : List Value → Heap → Prop, (∀ H22, ∀ x23, ∀ x24, ∀ x25, ∀ x26, ∀ x27, 
 (∀ K28 : List Value → Heap → Prop, (∀ H29, ∀ x30, ∀ x31, ∀ x32, ∀ x33, ∀ x34, ∀ x35, 
 (Br x35 (
 ev (intV .add x33 (.int .i64 1)) fun v36 =>
 I21 [x30, x31, x32, v36, x34] H29) (
 ev (intV .eql x33 x32) fun v37 =>
 Br v37 (
 Q (.bool true) H29) (
 ev (intV .sub x32 x31) fun v38 =>
 ev (intV .lss v38 (.int .i64 50)) fun v39 =>
 Br v39 (
 Q (.bool false) H29) (
 ev (intV .sub x33 (.int .i64 1)) fun v40 =>
 ev (intV .sub x33 (.int .i64 1)) fun v41 =>
 ev (ixS 1 x30 v41) fun v42 =>
 ev (ld1 H29 v42) fun v43 =>
 ev (ixS 1 x30 x33) fun v44 =>
 ev (ld1 H29 v44) fun v45 =>
 ev (ixS 1 x30 x33) fun v46 =>
 ev (sto 1 H29 v46 v43) fun H47 =>
 ev (ixS 1 x30 v40) fun v48 =>
 ev (sto 1 H47 v48 v45) fun H49 =>
 ∀ K50 : List Value → Heap → Prop, (∀ H51, ∀ x52, ∀ x53, ∀ x54, ∀ x55, ∀ x56, 
 (ev (intV .sub x54 x55) fun v57 =>
 ev (intV .geq v57 (.int .i64 2)) fun v58 =>
 Br v58 (
 ev (intV .add x55 (.int .i64 1)) fun v59 =>
 ∀ I60 : List Value → Heap → Prop, (∀ H61, ∀ x62, ∀ x63, ∀ x64, ∀ x65, ∀ x66, ∀ x67, 
 (ev (intV .lss x67 x64) fun v68 =>
 Br v68 (
 ev (ixS 1 x62 x67) fun v69 =>
 ev (ld1 H61 v69) fun v70 =>
 ev (intV .sub x67 (.int .i64 1)) fun v71 =>
 ev (ixS 1 x62 v71) fun v72 =>
 ev (ld1 H61 v72) fun v73 =>
 T PP 309 [v70, v73] H61 fun v74 H75 =>
 ev (unV .not v74) fun v76 =>
 Br v76 (
 K13 [x62, x63, x64, x65, x66] H75) (
 ev (intV .sub x67 (.int .i64 1)) fun v77 =>
 ev (intV .sub x67 (.int .i64 1)) fun v78 =>
 ev (ixS 1 x62 v78) fun v79 =>
 ev (ld1 H75 v79) fun v80 =>
 ev (ixS 1 x62 x67) fun v81 =>
 ev (ld1 H75 v81) fun v82 =>
 ev (ixS 1 x62 x67) fun v83 =>
 ev (sto 1 H75 v83 v80) fun H84 =>
 ev (ixS 1 x62 v77) fun v85 =>
 ev (sto 1 H84 v85 v82) fun H86 =>
 ev (intV .add x67 (.int .i64 1)) fun v87 =>
 I60 [x62, x63, x64, x65, x66, v87] H86)) (
 K13 [x62, x63, x64, x65, x66] H61)) → I60 [x62, x63, x64, x65, x66, x67] H61) →
 I60 [x52, x53, x54, x55, x56, v59] H51) (
 K13 [x52, x53, x54, x55, x56] H51)) → K50 [x52, x53, x54, x55, x56] H51) →
 ev (intV .sub x33 x31) fun v88 =>
 ev (intV .geq v88 (.int .i64 2)) fun v89 =>
 Br v89 (
 ev (intV .sub x33 (.int .i64 1)) fun v90 =>
 ∀ I91 : List Value → Heap → Prop, (∀ H92, ∀ x93, ∀ x94, ∀ x95, ∀ x96, ∀ x97, ∀ x98, 
 (ev (intV .geq x98 (.int .i64 1)) fun v99 =>
 Br v99 (
 ev (ixS 1 x93 x98) fun v100 =>
 ev (ld1 H92 v100) fun v101 =>
 ev (intV .sub x98 (.int .i64 1)) fun v102 =>
 ev (ixS 1 x93 v102) fun v103 =>
 ev (ld1 H92 v103) fun v104 =>
 T PP 309 [v101, v104] H92 fun v105 H106 =>
 ev (unV .not v105) fun v107 =>
 Br v107 (
 K50 [x93, x94, x95, x96, x97] H106) (
 ev (intV .sub x98 (.int .i64 1)) fun v108 =>
 ev (intV .sub x98 (.int .i64 1)) fun v109 =>
 ev (ixS 1 x93 v109) fun v110 =>
 ev (ld1 H106 v110) fun v111 =>
 ev (ixS 1 x93 x98) fun v112 =>
 ev (ld1 H106 v112) fun v113 =>
 ev (ixS 1 x93 x98) fun v114 =>
 ev (sto 1 H106 v114 v111) fun H115 =>
 ev (ixS 1 x93 v108) fun v116 =>
 ev (sto 1 H115 v116 v113) fun H117 =>
 ev (intV .sub x98 (.int .i64 1)) fun v118 =>
 I91 [x93, x94, x95, x96, x97, v118] H117)) (
 K50 [x93, x94, x95, x96, x97] H92)) → I91 [x93, x94, x95, x96, x97, x98] H92) →
 I91 [x30, x31, x32, x33, x34, v90] H49) (
 K50 [x30, x31, x32, x33, x34] H49))))) → K28 [x30, x31, x32, x33, x34, x35] H29) →
 ev (intV .lss x26 x25) fun v119 =>
 Br v119 (
 ev (ixS 1 x23 x26) fun v120 =>
 ev (ld1 H22 v120) fun v121 =>
 ev (intV .sub x26 (.int .i64 1)) fun v122 =>
 ev (ixS 1 x23 v122) fun v123 =>
 ev (ld1 H22 v123) fun v124 =>
 T PP 309 [v121, v124] H22 fun v125 H126 =>
 ev (unV .not v125) fun v127 =>
 K28 [x23, x24, x25, x26, x27, v127] H126) (
 K28 [x23, x24, x25, x26, x27, (.bool false)] H22)) → I21 [x23, x24, x25, x26, x27] H22) →
 I21 [x7, x8, x9, x10, x11] H6) (
 Q (.bool false) H6)) → I5 [x7, x8, x9, x10, x11] H6) →
 I5 [x0, x1, x2, v4, (.int .i64 0)] H
theorem T308 {x0 x1 x2 : Value} {Q : Value → Heap → Prop} {H : Heap} (h : sh308 x0 x1 x2 Q H) : T PP 308 [x0, x1, x2] H Q :=
  T_of_eq eok foll (.s .n (.s .n (.s (.s .n (.k (.l [0, 1, 2, 7, 8] (.s .n (.j [0, 1, 2, 7, 8] (.k (.s (.k (.l [0, 1, 2, 7, 8] (.s (.j [0, 1, 2, 7, 8, 32] .n .n) .n))) (.s .n (.s .n (.s .n (.j [0, 1, 2, 7, 8] (.s .n (.c (.s .n (.k (.l [0, 1, 2, 7, 8, 9] .n))) .n)) (.s .n (.c (.s .n (.k (.l [0, 1, 2, 7, 8, 10] .n))) .n)))))))) .n))))) .n))) Tryz.func308 (by kernel_rfl) (by kernel_rfl) (by kernel_rfl) h
/-- cmp.Less[int] -/
def sh309 (x0 x1 : Value) (Q : Value → Heap → Prop) (H : Heap) : Prop :=
 T PP 385 [x0] H fun v3 H4 =>
 Br v3 (
 T PP 385 [x1] H4 fun v5 H6 =>
 ev (unV .not v5) fun v7 =>
 Br v7 (
 Q (.bool true) H6) (
 ev (intV .lss x0 x1) fun v8 =>
 Q v8 H6)) (
 ev (intV .lss x0 x1) fun v9 =>
 Q v9 H4)
theorem T309 {x0 x1 : Value} {Q : Value → Heap → Prop} {H : Heap} (h : sh309 x0 x1 Q H) : T PP 309 [x0, x1] H Q :=
  T_of_eq eok foll .n Tryz.func309 (by kernel_rfl) (by kernel_rfl) (by kernel_rfl) h
/-- slices.partitionEqualOrdered[int] -/
def sh310 (x0 x1 x2 x3 : Value) (Q : Value → Heap → Prop) (H : Heap) : Prop :=
 ev (ixS 1 x0 x3) fun v5 =>
 ev (ld1 H v5) fun v6 =>
 ev (ixS 1 x0 x1) fun v7 =>
 ev (ld1 H v7) fun v8 =>
 ev (ixS 1 x0 x1) fun v9 =>
 ev (sto 1 H v9 v6) fun H10 =>
 ev (ixS 1 x0 x3) fun v11 =>
 ev (sto 1 H10 v11 v8) fun H12 =>
 ev (intV .add x1 (.int .i64 1)) fun v13 =>
 ev (intV .sub x2 (.int .i64 1)) fun v14 =>
 ∀ I15 : List Value → Heap → Prop, (∀ H16, ∀ x17, ∀ x18, ∀ x19, ∀ x20, 
 (∀ I21 : List Value → Heap → Prop, (∀ H22, ∀ x23, ∀ x24, ∀ x25, ∀ x26, 
 (∀ K27 : List Value → Heap → Prop, (∀ H28, ∀ x29, ∀ x30, ∀ x31, ∀ x32, ∀ x33, 
 (Br x33 (
 ev (intV .add x31 (.int .i64 1)) fun v34 =>
 I21 [x29, x30, v34, x32] H28) (
 ∀ I35 : List Value → Heap → Prop, (∀ H36, ∀ x37, ∀ x38, ∀ x39, ∀ x40, 
 (∀ K41 : List Value → Heap → Prop, (∀ H42, ∀ x43, ∀ x44, ∀ x45, ∀ x46, ∀ x47, 
 (Br x47 (
 ev (intV .sub x46 (.int .i64 1)) fun v48 =>
 I35 [x43, x44, x45, v48] H42) (
 ev (intV .gtr x45 x46) fun v49 =>
 Br v49 (
 Q x45 H42) (
 ev (ixS 1 x43 x46) fun v50 =>
 ev (ld1 H42 v50) fun v51 =>
 ev (ixS 1 x43 x45) fun v52 =>
 ev (ld1 H42 v52) fun v53 =>
 ev (ixS 1 x43 x45) fun v54 =>
 ev (sto 1 H42 v54 v51) fun H55 =>
 ev (ixS 1 x43 x46) fun v56 =>
 ev (sto 1 H55 v56 v53) fun H57 =>
 ev (intV .add x45 (.int .i64 1)) fun v58 =>
 ev (intV .sub x46 (.int .i64 1)) fun v59 =>
 I15 [x43, x44, v58, v59] H57))) → K41 [x43, x44, x45, x46, x47] H42) →
 ev (intV .leq x39 x40) fun v60 =>
 Br v60 (
 ev (ixS 1 x37 x38) fun v61 =>
 ev (ld1 H36 v61) fun v62 =>
 ev (ixS 1 x37 x40) fun v63 =>
 ev (ld1 H36 v63) fun v64 =>
 T PP 309 [v62, v64] H36 fun v65 H66 =>
 K41 [x37, x38, x39, x40, v65] H66) (
 K41 [x37, x38, x39, x40, (.bool false)] H36)) → I35 [x37, x38, x39, x40] H36) →
 I35 [x29, x30, x31, x32] H28)) → K27 [x29, x30, x31, x32, x33] H28) →
 ev (intV .leq x25 x26) fun v67 =>
 Br v67 (
 ev (ixS 1 x23 x24) fun v68 =>
 ev (ld1 H22 v68) fun v69 =>
 ev (ixS 1 x23 x25) fun v70 =>
 ev (ld1 H22 v70) fun v71 =>
 T PP 309 [v69, v71] H22 fun v72 H73 =>
 ev (unV .not v72) fun v74 =>
 K27 [x23, x24, x25, x26, v74] H73) (
 K27 [x23, x24, x25, x26, (.bool false)] H22)) → I21 [x23, x24, x25, x26] H22) →
 I21 [x17, x18, x19, x20] H16) → I15 [x17, x18, x19, x20] H16) →
 I15 [x0, x1, v13, v14] H12
theorem T310 {x0 x1 x2 x3 : Value} {Q : Value → Heap → Prop} {H : Heap} (h : sh310 x0 x1 x2 x3 Q H) : T PP 310 [x0, x1, x2, x3] H Q :=
  T_of_eq eok foll (.s .n (.s .n (.s .n (.s (.k (.l [0, 1, 9, 10] (.k (.s (.k (.l [0, 1, 9, 10] (.s (.j [0, 1, 9, 10, 43] .n .n) .n))) (.s (.k (.l [0, 1, 9, 10] (.s (.j [0, 1, 9, 10, 59] .n .n) .n))) .n))))) .n)))) Tryz.func310 (by kernel_rfl) (by kernel_rfl) (by kernel_rfl) h
/-- slices.partitionOrdered[int] -/
def sh311 (x0 x1 x2 x3 : Value) (Q : Value → Heap → Prop) (H : Heap) : Prop :=
 ev (ixS 1 x0 x3) fun v5 =>
 ev (ld1 H v5) fun v6 =>
 ev (ixS 1 x0 x1) fun v7 =>
 ev (ld1 H v7) fun v8 =>
 ev (ixS 1 x0 x1) fun v9 =>
 ev (sto 1 H v9 v6) fun H10 =>
 ev (ixS 1 x0 x3) fun v11 =>
 ev (sto 1 H10 v11 v8) fun H12 =>
 ev (intV .add x1 (.int .i64 1)) fun v13 =>
 ev (intV .sub x2 (.int .i64 1)) fun v14 =>
 ∀ I15 : List Value → Heap → Prop, (∀ H16, ∀ x17, ∀ x18, ∀ x19, ∀ x20, 
 (∀ K21 : List Value → Heap → Prop, (∀ H22, ∀ x23, ∀ x24, ∀ x25, ∀ x26, ∀ x27, 
 (Br x27 (
 ev (intV .add x25 (.int .i64 1)) fun v28 =>
 I15 [x23, x24, v28, x26] H22) (
 ∀ I29 : List Value → Heap → Prop, (∀ H30, ∀ x31, ∀ x32, ∀ x33, ∀ x34, 
 (∀ K35 : List Value → Heap → Prop, (∀ H36, ∀ x37, ∀ x38, ∀ x39, ∀ x40, ∀ x41, 
 (Br x41 (
 ev (intV .sub x40 (.int .i64 1)) fun v42 =>
 I29 [x37, x38, x39, v42] H36) (
 ev (intV .gtr x39 x40) fun v43 =>
 Br v43 (
 ev (ixS 1 x37 x38) fun v44 =>
 ev (ld1 H36 v44) fun v45 =>
 ev (ixS 1 x37 x40) fun v46 =>
 ev (ld1 H36 v46) fun v47 =>
 ev (ixS 1 x37 x40) fun v48 =>
 ev (sto 1 H36 v48 v45) fun H49 =>
 ev (ixS 1 x37 x38) fun v50 =>
 ev (sto 1 H49 v50 v47) fun H51 =>
 Q (.tuple #[x40, (.bool true)]) H51) (
 ev (ixS 1 x37 x40) fun v52 =>
 ev (ld1 H36 v52) fun v53 =>
 ev (ixS 1 x37 x39) fun v54 =>
 ev (ld1 H36 v54) fun v55 =>
 ev (ixS 1 x37 x39) fun v56 =>
 ev (sto 1 H36 v56 v53) fun H57 =>
 ev (ixS 1 x37 x40) fun v58 =>
 ev (sto 1 H57 v58 v55) fun H59 =>
 ev (intV .add x39 (.int .i64 1)) fun v60 =>
 ev (intV .sub x40 (.int .i64 1)) fun v61 =>
 ∀ I62 : List Value → Heap → Prop, (∀ H63, ∀ x64, ∀ x65, ∀ x66, ∀ x67, 
 (∀ I68 : List Value → Heap → Prop, (∀ H69, ∀ x70, ∀ x71, ∀ x72, ∀ x73, 
 (∀ K74 : List Value → Heap → Prop, (∀ H75, ∀ x76, ∀ x77, ∀ x78, ∀ x79, ∀ x80, 
 (Br x80 (
 ev (intV .add x78 (.int .i64 1)) fun v81 =>
 I68 [x76, x77, v81, x79] H75) (
 ∀ I82 : List Value → Heap → Prop, (∀ H83, ∀ x84, ∀ x85, ∀ x86, ∀ x87, 
 (∀ K88 : List Value → Heap → Prop, (∀ H89, ∀ x90, ∀ x91, ∀ x92, ∀ x93, ∀ x94, 
 (Br x94 (
 ev (intV .sub x93 (.int .i64 1)) fun v95 =>
 I82 [x90, x91, x92, v95] H89) (
 ev (intV .gtr x92 x93) fun v96 =>
 Br v96 (
 ev (ixS 1 x90 x91) fun v97 =>
 ev (ld1 H89 v97) fun v98 =>
 ev (ixS 1 x90 x93) fun v99 =>
 ev (ld1 H89 v99) fun v100 =>
 ev (ixS 1 x90 x93) fun v101 =>
 ev (sto 1 H89 v101 v98) fun H102 =>
 ev (ixS 1 x90 x91) fun v103 =>
 ev (sto 1 H102 v103 v100) fun H104 =>
 Q (.tuple #[x93, (.bool false)]) H104) (
 ev (ixS 1 x90 x93) fun v105 =>
 ev (ld1 H89 v105) fun v106 =>
 ev (ixS 1 x90 x92) fun v107 =>
 ev (ld1 H89 v107) fun v108 =>
 ev (ixS 1 x90 x92) fun v109 =>
 ev (sto 1 H89 v109 v106) fun H110 =>
 ev (ixS 1 x90 x93) fun v111 =>
 ev (sto 1 H110 v111 v108) fun H112 =>
 ev (intV .add x92 (.int .i64 1)) fun v113 =>
 ev (intV .sub x93 (.int .i64 1)) fun v114 =>
 I62 [x90, x91, v113, v114] H112))) → K88 [x90, x91, x92, x93, x94] H89) →
 ev (intV .leq x86 x87) fun v115 =>
 Br v115 (
 ev (ixS 1 x84 x87) fun v116 =>
 ev (ld1 H83 v116) fun v117 =>
 ev (ixS 1 x84 x85) fun v118 =>
 ev (ld1 H83 v118) fun v119 =>
 T PP 309 [v117, v119] H83 fun v120 H121 =>
 ev (unV .not v120) fun v122 =>
 K88 [x84, x85, x86, x87, v122] H121) (
 K88 [x84, x85, x86, x87, (.bool false)] H83)) → I82 [x84, x85, x86, x87] H83) →
 I82 [x76, x77, x78, x79] H75)) → K74 [x76, x77, x78, x79, x80] H75) →
 ev (intV .leq x72 x73) fun v123 =>
 Br v123 (
 ev (ixS 1 x70 x72) fun v124 =>
 ev (ld1 H69 v124) fun v125 =>
 ev (ixS 1 x70 x71) fun v126 =>
 ev (ld1 H69 v126) fun v127 =>
 T PP 309 [v125, v127] H69 fun v128 H129 =>
 K74 [x70, x71, x72, x73, v128] H129) (
 K74 [x70, x71, x72, x73, (.bool false)] H69)) → I68 [x70, x71, x72, x73] H69) →
 I68 [x64, x65, x66, x67] H63) → I62 [x64, x65, x66, x67] H63) →
 I62 [x37, x38, v60, v61] H59))) → K35 [x37, x38, x39, x40, x41] H36) →
 ev (intV .leq x33 x34) fun v130 =>
 Br v130 (
 ev (ixS 1 x31 x34) fun v131 =>
 ev (ld1 H30 v131) fun v132 =>
 ev (ixS 1 x31 x32) fun v133 =>
 ev (ld1 H30 v133) fun v134 =>
 T PP 309 [v132, v134] H30 fun v135 H136 =>
 ev (unV .not v135) fun v137 =>
 K35 [x31, x32, x33, x34, v137] H136) (
 K35 [x31, x32, x33, x34, (.bool false)] H30)) → I29 [x31, x32, x33, x34] H30) →
 I29 [x23, x24, x25, x26] H22)) → K21 [x23, x24, x25, x26, x27] H22) →
 ev (intV .leq x19 x20) fun v138 =>
 Br v138 (
 ev (ixS 1 x17 x19) fun v139 =>
 ev (ld1 H16 v139) fun v140 =>
 ev (ixS 1 x17 x18) fun v141 =>
 ev (ld1 H16 v141) fun v142 =>
 T PP 309 [v140, v142] H16 fun v143 H144 =>
 K21 [x17, x18, x19, x20, v143] H144) (
 K21 [x17, x18, x19, x20, (.bool false)] H16)) → I15 [x17, x18, x19, x20] H16) →
 I15 [x0, x1, v13, v14] H12
theorem T311 {x0 x1 x2 x3 : Value} {Q : Value → Heap → Prop} {H : Heap} (h : sh311 x0 x1 x2 x3 Q H) : T PP 311 [x0, x1, x2, x3] H Q :=
  T_of_eq eok foll (.s .n (.s .n (.s .n (.s (.k (.l [0, 1, 10, 11] (.s (.j [0, 1, 10, 11, 43] .n .n) .n))) (.s (.k (.l [0, 1, 10, 11] (.s (.j [0, 1, 10, 11, 60] .n .n) .n))) (.s .n (.s .n (.s .n (.s .n (.s (.k (.l [0, 1, 10, 11] (.k (.s (.k (.l [0, 1, 10, 11] (.s (.j [0, 1, 10, 11, 112] .n .n) .n))) (.s (.k (.l [0, 1, 10, 11] (.s (.j [0, 1, 10, 11, 129] .n .n) .n))) .n))))) .n)))))))))) Tryz.func311 (by kernel_rfl) (by kernel_rfl) (by kernel_rfl) h
/-- (*escutcheon/arena.Arena[escutcheon/table.head]).Used$1 -/
def sh317 (x0 x1 : Value) (Q : Value → Heap → Prop) (H : Heap) : Prop :=
 ev (ld1 H x1) fun v3 =>
 ev (notB false (eqP v3 (.pointer none))) fun v4 =>
 Br v4 (
 Q (.tuple #[]) H) (
 ev (ld1 H x1) fun v5 =>
 ev (nilV v5) fun v6 =>
 ev (fldA 0 v6) fun v7 =>
 ev (ld1 H v7) fun v8 =>
 ev (lenS v8) fun v9 =>
 ∀ I10 : List Value → Heap → Prop, (∀ H11, ∀ x12, ∀ x13, ∀ x14, ∀ x15, 
 (ev (intV .lss x15 x14) fun v16 =>
 Br v16 (
 ev (ld1 H11 x13) fun v17 =>
 T PP 257 [v17, x15] H11 fun v18 H19 =>
 ev (extrV 0 v18) fun v20 =>
 ev (extrV 1 v18) fun v21 =>
 alW 138 [(.int .i64 0), (.int .i64 0), (.int .i64 0), (.int .i64 0), (.int .i64 0), (.pointer none)] H19 fun v22 H23 =>
 ev (sto 6 H23 v22 v20) fun H24 =>
 ∀ K25 : List Value → Heap → Prop, (∀ H26, ∀ x27, ∀ x28, ∀ x29, ∀ x30, ∀ x31, 
 (Br x31 (
 Q (.tuple #[]) H26) (
 ev (intV .add x30 (.int .i64 1)) fun v32 =>
 I10 [x27, x28, x29, v32] H26)) → K25 [x27, x28, x29, x30, x31] H26) →
 Br v21 (
 ev (ldn 6 H24 v22) fun v33 =>
 clW PP x12 [x15, v33] H24 fun v34 H35 =>
 ev (unV .not v34) fun v36 =>
 K25 [x12, x13, x14, x15, v36] H35) (
 K25 [x12, x13, x14, x15, (.bool false)] H24)) (
 Q (.tuple #[]) H11)) → I10 [x12, x13, x14, x15] H11) →
 I10 [x0, x1, v9, (.int .i64 0)] H)
theorem T317 {x0 x1 : Value} {Q : Value → Heap → Prop} {H : Heap} (h : sh317 x0 x1 Q H) : T PP 317 [x0, x1] H Q :=
  T_of_eq eok foll (.s .n (.s .n (.k (.l [0, 1, 12, 13] (.s .n (.s .n (.s (.k (.s .n (.s .n (.j [0, 1, 12, 13, 29] .n .n)))) .n))))))) Tryz.func317 (by kernel_rfl) (by kernel_rfl) (by kernel_rfl) h
/-- slices.pdqsortCmpFunc[escutcheon/table.head] -/
def sh318 (x0 x1 x2 x3 x4 : Value) (Q : Value → Heap → Prop) (H : Heap) : Prop :=
 ∀ I6 : List Value → Heap → Prop, (∀ H7, ∀ x8, ∀ x9, ∀ x10, ∀ x11, ∀ x12, ∀ x13, ∀ x14, 
 (ev (intV .sub x10 x9) fun v15 =>
 ev (intV .leq v15 (.int .i64 12)) fun v16 =>
 Br v16 (
 T PP 391 [x8, x9, x10, x12] H7 fun _ H18 =>
 Q (.tuple #[]) H18) (
 ev (intV .eql x11 (.int .i64 0)) fun v19 =>
 Br v19 (
 T PP 392 [x8, x9, x10, x12] H7 fun _ H21 =>
 Q (.tuple #[]) H21) (
 ∀ K22 : List Value → Heap → Prop, (∀ H23, ∀ x24, ∀ x25, ∀ x26, ∀ x27, ∀ x28, ∀ x29, ∀ x30, ∀ x31, 
 (T PP 394 [x24, x25, x26, x28] H23 fun v32 H33 =>
 ev (extrV 0 v32) fun v34 =>
 ev (extrV 1 v32) fun v35 =>
 ∀ K36 : List Value → Heap → Prop, (∀ H37, ∀ x38, ∀ x39, ∀ x40, ∀ x41, ∀ x42, ∀ x43, ∀ x44, ∀ x45, ∀ x46, ∀ x47, 
 (∀ K48 : List Value → Heap → Prop, (∀ H49, ∀ x50, ∀ x51, ∀ x52, ∀ x53, ∀ x54, ∀ x55, ∀ x56, ∀ x57, ∀ x58, 
 (∀ K59 : List Value → Heap → Prop, (∀ H60, ∀ x61, ∀ x62, ∀ x63, ∀ x64, ∀ x65, ∀ x66, ∀ x67, ∀ x68, ∀ x69, ∀ x70, 
 (Br x70 (
 T PP 397 [x61, x62, x63, x69, x65] H60 fun v71 H72 =>
 I6 [x61, v71, x63, x64, x65, x66, x67] H72) (
 T PP 398 [x61, x62, x63, x69, x65] H60 fun v73 H74 =>
 ev (extrV 0 v73) fun v75 =>
 ev (extrV 1 v73) fun v76 =>
 ev (intV .sub v75 x62) fun v77 =>
 ev (intV .sub x63 v75) fun v78 =>
 ev (intV .quo x68 (.int .i64 8)) fun v79 =>
 ev (intV .lss v77 v78) fun v80 =>
 Br v80 (
 ev (intV .geq v77 v79) fun v81 =>
 T PP 318 [x61, x62, v75, x64, x65] H74 fun _ H83 =>
 ev (intV .add v75 (.int .i64 1)) fun v84 =>
 I6 [x61, v84, x63, x64, x65, v81, v76] H83) (
 ev (intV .geq v78 v79) fun v85 =>
 ev (intV .add v75 (.int .i64 1)) fun v86 =>
 T PP 318 [x61, v86, x63, x64, x65] H74 fun _ H88 =>
 I6 [x61, x62, v75, x64, x65, v85, v76] H88))) → K59 [x61, x62, x63, x64, x65, x66, x67, x68, x69, x70] H60) →
 ev (intV .gtr x51 (.int .i64 0)) fun v89 =>
 Br v89 (
 ev (intV .sub x51 (.int .i64 1)) fun v90 =>
 ev (ixS 6 x50 v90) fun v91 =>
 ev (ldn 6 H49 v91) fun v92 =>
 ev (ixS 6 x50 x58) fun v93 =>
 ev (ldn 6 H49 v93) fun v94 =>
 clW PP x54 [v92, v94] H49 fun v95 H96 =>
 ev (intV .lss v95 (.int .i64 0)) fun v97 =>
 ev (unV .not v97) fun v98 =>
 K59 [x50, x51, x52, x53, x54, x55, x56, x57, x58, v98] H96) (
 K59 [x50, x51, x52, x53, x54, x55, x56, x57, x58, (.bool false)] H49)) → K48 [x50, x51, x52, x53, x54, x55, x56, x57, x58] H49) →
 ∀ K99 : List Value → Heap → Prop, (∀ H100, ∀ x101, ∀ x102, ∀ x103, ∀ x104, ∀ x105, ∀ x106, ∀ x107, ∀ x108, ∀ x109, ∀ x110, 
 (Br x110 (
 T PP 396 [x101, x102, x103, x105] H100 fun v111 H112 =>
 Br v111 (
 Q (.tuple #[]) H112) (
 K48 [x101, x102, x103, x104, x105, x106, x107, x108, x109] H112)) (
 K48 [x101, x102, x103, x104, x105, x106, x107, x108, x109] H100)) → K99 [x101, x102, x103, x104, x105, x106, x107, x108, x109, x110] H100) →
 Br x43 (
 Br x44 (
 ev (intV .eql x47 (.int .i64 1)) fun v113 =>
 K99 [x38, x39, x40, x41, x42, x43, x44, x45, x46, v113] H37) (
 K99 [x38, x39, x40, x41, x42, x43, x44, x45, x46, (.bool false)] H37)) (
 K99 [x38, x39, x40, x41, x42, x43, x44, x45, x46, (.bool false)] H37)) → K36 [x38, x39, x40, x41, x42, x43, x44, x45, x46, x47] H37) →
 ev (intV .eql v35 (.int .i64 2)) fun v114 =>
 Br v114 (
 T PP 395 [x24, x25, x26, x28] H33 fun _ H116 =>
 ev (intV .sub x26 (.int .i64 1)) fun v117 =>
 ev (intV .sub v34 x25) fun v118 =>
 ev (intV .sub v117 v118) fun v119 =>
 K36 [x24, x25, x26, x27, x28, x29, x30, x31, v119, (.int .i64 1)] H116) (
 K36 [x24, x25, x26, x27, x28, x29, x30, x31, v34, v35] H33)) → K22 [x24, x25, x26, x27, x28, x29, x30, x31] H23) →
 ev (unV .not x13) fun v120 =>
 Br v120 (
 T PP 393 [x8, x9, x10, x12] H7 fun _ H122 =>
 ev (intV .sub x11 (.int .i64 1)) fun v123 =>
 K22 [x8, x9, x10, v123, x12, x13, x14, v15] H122) (
 K22 [x8, x9, x10, x11, x12, x13, x14, v15] H7)))) → I6 [x8, x9, x10, x11, x12, x13, x14] H7) →
 I6 [x0, x1, x2, x3, x4, (.bool true), (.bool true)] H
theorem T318 {x0 x1 x2 x3 x4 : Value} {Q : Value → Heap → Prop} {H : Heap} (h : sh318 x0 x1 x2 x3 x4 Q H) : T PP 318 [x0, x1, x2, x3, x4] H Q :=
  T_of_eq eok foll (.s .n (.s .n (.k (.l [0, 1, 2, 3, 4, 10, 11] (.k (.s .n (.s .n (.s .n (.j [0, 1, 2, 3, 4, 10, 11, 12] .n (.s .n (.j [0, 1, 2, 3, 4, 10, 11, 12, 13, 14] .n (.j [0, 1, 2, 3, 4, 10, 11, 12, 13] (.j [0, 1, 2, 3, 4, 10, 11, 12, 13, 75] .n .n) (.s (.j [0, 1, 2, 3, 4, 10, 11, 12, 13, 97] .n .n) .n))))))))))))) Tryz.func318 (by kernel_rfl) (by kernel_rfl) (by kernel_rfl) h
/-- escutcheon/request.of$1 -/
def sh319 (x0 x1 : Value) (Q : Value → Heap → Prop) (H : Heap) : Prop :=
 alW 48 (Value.cells x0).toList H fun v3 H4 =>
 ev (fldA 0 v3) fun v5 =>
 ev (ld1 H4 v5) fun v6 =>
 ev (ld1 H4 x1) fun v7 =>
 ev (intV .eql v6 v7) fun v8 =>
 Q v8 H4
theorem T319 {x0 x1 : Value} {Q : Value → Heap → Prop} {H : Heap} (h : sh319 x0 x1 Q H) : T PP 319 [x0, x1] H Q :=
  T_of_eq eok foll .n Tryz.func319 (by kernel_rfl) (by kernel_rfl) (by kernel_rfl) h
/-- escutcheon/group.find -/
def sh321 (x0 x1 : Value) (Q : Value → Heap → Prop) (H : Heap) : Prop :=
 alW 3 (Value.cells x1).toList H fun v3 H4 =>
 T PP 401 [x0, (.func (.func 402) #[] #[v3])] H4 fun v5 H6 =>
 Q v5 H6
theorem T321 {x0 x1 : Value} {Q : Value → Heap → Prop} {H : Heap} (h : sh321 x0 x1 Q H) : T PP 321 [x0, x1] H Q :=
  T_of_eq eok foll .n Tryz.func321 (by kernel_rfl) (by kernel_rfl) (by kernel_rfl) h
/-- escutcheon/mode.points -/
def sh322 (Q : Value → Heap → Prop) (H : Heap) : Prop :=
 alW 362 [(.complex .f64 0 0), (.complex .f64 0 0), (.complex .f64 0 0), (.complex .f64 0 0), (.complex .f64 0 0), (.complex .f64 0 0), (.complex .f64 0 0)] H fun v1 H2 =>
 ev (bldV [(.complex .f64 0 0), (.complex .f64 0 0), (.complex .f64 0 0), (.complex .f64 0 0), (.complex .f64 0 0), (.complex .f64 0 0), (.complex .f64 0 0)] [(0, 1, (.complex .f64 0 0)), (1, 1, (.complex .f64 0 4607182418800017408)), (2, 1, (.complex .f64 0 4611686018427387904)), (3, 1, (.complex .f64 4607182418800017408 4607182418800017408)), (4, 1, (.complex .f64 4607182418800017408 4611686018427387904)), (5, 1, (.complex .f64 4611686018427387904 4607182418800017408)), (6, 1, (.complex .f64 4613937818241073152 4611686018427387904))]) fun v3 =>
 ev (sto 7 H2 v1 v3) fun H4 =>
 ev (ldn 7 H4 v1) fun v5 =>
 Q v5 H4
theorem T322 {Q : Value → Heap → Prop} {H : Heap} (h : sh322 Q H) : T PP 322 [] H Q :=
  T_of_eq eok foll .n Tryz.func322 (by kernel_rfl) (by kernel_rfl) (by kernel_rfl) h
/-- escutcheon/mode.right -/
def sh323 (x0 : Value) (Q : Value → Heap → Prop) (H : Heap) : Prop :=
 T PP 166 [x0] H fun v2 H3 =>
 Br v2 (
 Q x0 H3) (
 Q (.int .i64 0) H3)
theorem T323 {x0 : Value} {Q : Value → Heap → Prop} {H : Heap} (h : sh323 x0 Q H) : T PP 323 [x0] H Q :=
  T_of_eq eok foll .n Tryz.func323 (by kernel_rfl) (by kernel_rfl) (by kernel_rfl) h
/-- escutcheon/mode.below -/
def sh326 (x0 x1 : Value) (Q : Value → Heap → Prop) (H : Heap) : Prop :=
 ev (realV x0) fun v3 =>
 ev (realV x1) fun v4 =>
 ev (fltV .leq v3 v4) fun v5 =>
 Br v5 (
 ev (imagV x0) fun v6 =>
 ev (imagV x1) fun v7 =>
 ev (fltV .leq v6 v7) fun v8 =>
 Q v8 H) (
 Q (.bool false) H)
theorem T326 {x0 x1 : Value} {Q : Value → Heap → Prop} {H : Heap} (h : sh326 x0 x1 Q H) : T PP 326 [x0, x1] H Q :=
  T_of_eq eok foll .n Tryz.func326 (by kernel_rfl) (by kernel_rfl) (by kernel_rfl) h
/-- (*escutcheon/arena.Arena[escutcheon/table.head]).has -/
def sh354 (x0 x1 : Value) (Q : Value → Heap → Prop) (H : Heap) : Prop :=
 ev (notB true (eqP x0 (.pointer none))) fun v3 =>
 Br v3 (
 ev (intV .geq x1 (.int .i64 0)) fun v4 =>
 Br v4 (
 ev (nilV x0) fun v5 =>
 ev (fldA 0 v5) fun v6 =>
 ev (ld1 H v6) fun v7 =>
 ev (lenS v7) fun v8 =>
 ev (intV .lss x1 v8) fun v9 =>
 Br v9 (
 ev (nilV x0) fun v10 =>
 ev (fldA 0 v10) fun v11 =>
 ev (ld1 H v11) fun v12 =>
 ev (ixS 8 v12 x1) fun v13 =>
 ev (fldA 6 v13) fun v14 =>
 ev (ld1 H v14) fun v15 =>
 Q v15 H) (
 Q (.bool false) H)) (
 Q (.bool false) H)) (
 Q (.bool false) H)
theorem T354 {x0 x1 : Value} {Q : Value → Heap → Prop} {H : Heap} (h : sh354 x0 x1 Q H) : T PP 354 [x0, x1] H Q :=
  T_of_eq eok foll .n Tryz.func354 (by kernel_rfl) (by kernel_rfl) (by kernel_rfl) h
/-- (*escutcheon/bucket.Map).Bucket -/
def sh355 (x0 x1 : Value) (Q : Value → Heap → Prop) (H : Heap) : Prop :=
 T PP 259 [x0] H fun v3 H4 =>
 ev (unV .not v3) fun v5 =>
 Br v5 (
 Q (.int .i64 0) H4) (
 ev (nilV x0) fun v6 =>
 ev (fldA 0 v6) fun v7 =>
 ev (ld1 H4 v7) fun v8 =>
 ev (lenS v8) fun v9 =>
 T PP 262 [v9] H4 fun v10 H11 =>
 T PP 410 [x1] H11 fun v12 H13 =>
 ev (intV .mul (.int .u64 2) v10) fun v14 =>
 ev (intV .rem v12 v14) fun v15 =>
 ∀ K16 : List Value → Heap → Prop, (∀ H17, ∀ x18, 
 (ev (convV .i64 x18) fun v19 =>
 Q v19 H17) → K16 [x18] H17) →
 ev (nilV x0) fun v20 =>
 ev (fldA 0 v20) fun v21 =>
 ev (ld1 H13 v21) fun v22 =>
 ev (lenS v22) fun v23 =>
 ev (convV .u64 v23) fun v24 =>
 ev (intV .geq v15 v24) fun v25 =>
 Br v25 (
 ev (intV .sub v15 v10) fun v26 =>
 K16 [v26] H13) (
 K16 [v15] H13))
theorem T355 {x0 x1 : Value} {Q : Value → Heap → Prop} {H : Heap} (h : sh355 x0 x1 Q H) : T PP 355 [x0, x1] H Q :=
  T_of_eq eok foll (.s .n (.s .n (.s .n (.s .n (.j [6] .n .n))))) Tryz.func355 (by kernel_rfl) (by kernel_rfl) (by kernel_rfl) h
/-- escutcheon/request.Place -/
def sh356 (x0 x1 : Value) (Q : Value → Heap → Prop) (H : Heap) : Prop :=
 ev (unV .not x1) fun v3 =>
 Br v3 (
 ev (lenS x0) fun v4 =>
 Q v4 H) (
 ev (lenS x0) fun v5 =>
 ∀ I6 : List Value → Heap → Prop, (∀ H7, ∀ x8, ∀ x9, ∀ x10, ∀ x11, 
 (ev (intV .lss x11 x10) fun v12 =>
 Br v12 (
 ∀ K13 : List Value → Heap → Prop, (∀ H14, ∀ x15, ∀ x16, ∀ x17, ∀ x18, 
 (ev (intV .add x18 (.int .i64 1)) fun v19 =>
 I6 [x15, x16, x17, v19] H14) → K13 [x15, x16, x17, x18] H14) →
 ev (ixS 4 x9 x11) fun v20 =>
 ev (ldn 4 H7 v20) fun v21 =>
 alW 48 [(.int .i64 0), (.int .i64 0), (.bool false), (.bool false)] H7 fun v22 H23 =>
 ev (sto 4 H23 v22 v21) fun H24 =>
 ev (fldA 2 v22) fun v25 =>
 ev (ld1 H24 v25) fun v26 =>
 Br v26 (
 ev (intV .add x11 (.int .i64 1)) fun v27 =>
 K13 [v27, x9, x10, x11] H24) (
 K13 [x8, x9, x10, x11] H24)) (
 Q x8 H7)) → I6 [x8, x9, x10, x11] H7) →
 I6 [(.int .i64 0), x0, v5, (.int .i64 0)] H)
theorem T356 {x0 x1 : Value} {Q : Value → Heap → Prop} {H : Heap} (h : sh356 x0 x1 Q H) : T PP 356 [x0, x1] H Q :=
  T_of_eq eok foll (.s .n (.s .n (.s .n (.s (.s .n (.k (.l [5, 12, 13, 14] (.s .n (.s .n (.j [5, 12, 13, 14] .n .n)))))) .n)))) Tryz.func356 (by kernel_rfl) (by kernel_rfl) (by kernel_rfl) h
/-- escutcheon/group.Goes -/
def sh357 (x0 x1 x2 : Value) (Q : Value → Heap → Prop) (H : Heap) : Prop :=
 alW 3 (Value.cells x1).toList H fun v4 H5 =>
 alW 3 (Value.cells x2).toList H5 fun v6 H7 =>
 T PP 411 [x0, (.func (.func 412) #[] #[v4, v6])] H7 fun v8 H9 =>
 ev (unV .not v8) fun v10 =>
 Q v10 H9
theorem T357 {x0 x1 x2 : Value} {Q : Value → Heap → Prop} {H : Heap} (h : sh357 x0 x1 x2 Q H) : T PP 357 [x0, x1, x2] H Q :=
  T_of_eq eok foll .n Tryz.func357 (by kernel_rfl) (by kernel_rfl) (by kernel_rfl) h
/-- slices.Insert[[]escutcheon/api.Wait,escutcheon/api.Wait] -/
def sh358 (x0 x1 x2 : Value) (Q : Value → Heap → Prop) (H : Heap) : Prop :=
 ev (slV 4 x0 (some x1) none none) fun _ =>
 ev (lenS x2) fun v5 =>
 ev (intV .eql v5 (.int .i64 0)) fun v6 =>
 Br v6 (
 Q x0 H) (
 ev (lenS x0) fun v7 =>
 ev (intV .eql x1 v7) fun v8 =>
 Br v8 (
 appW PP 45 45 x0 x2 H fun v9 H10 =>
 Q v9 H10) (
 ev (intV .add v7 v5) fun v11 =>
 ev (capV x0) fun v12 =>
 ev (intV .gtr v11 v12) fun v13 =>
 Br v13 (
 ev (slV 4 x0 none (some x1) none) fun v14 =>
 ev (intV .add v7 v5) fun v15 =>
 ev (intV .sub v15 x1) fun v16 =>
 appW PP 45 3 v14 v16 H fun v17 H18 =>
 ev (slV 4 v17 (some x1) none none) fun v19 =>
 cpyW PP 45 45 v19 x2 H18 fun _ H21 =>
 ev (intV .add x1 v5) fun v22 =>
 ev (slV 4 v17 (some v22) none none) fun v23 =>
 ev (slV 4 x0 (some x1) none none) fun v24 =>
 cpyW PP 45 45 v23 v24 H21 fun _ H26 =>
 Q v17 H26) (
 ev (intV .add v7 v5) fun v27 =>
 ev (slV 4 x0 none (some v27) none) fun v28 =>
 ev (intV .add x1 v5) fun v29 =>
 ev (slV 4 v28 (some v29) none none) fun v30 =>
 T PP 413 [x2, v30] H fun v31 H32 =>
 ev (unV .not v31) fun v33 =>
 Br v33 (
 ev (intV .add x1 v5) fun v34 =>
 ev (slV 4 v28 (some v34) none none) fun v35 =>
 ev (slV 4 v28 (some x1) none none) fun v36 =>
 cpyW PP 45 45 v35 v36 H32 fun _ H38 =>
 ev (slV 4 v28 (some x1) none none) fun v39 =>
 cpyW PP 45 45 v39 x2 H38 fun _ H41 =>
 Q v28 H41) (
 ev (slV 4 v28 (some v7) none none) fun v42 =>
 cpyW PP 45 45 v42 x2 H32 fun _ H44 =>
 ev (slV 4 v28 (some x1) none none) fun v45 =>
 T PP 414 [v45, v5] H44 fun _ H47 =>
 Q v28 H47))))
theorem T358 {x0 x1 x2 : Value} {Q : Value → Heap → Prop} {H : Heap} (h : sh358 x0 x1 x2 Q H) : T PP 358 [x0, x1, x2] H Q :=
  T_of_eq eok foll .n Tryz.func358 (by kernel_rfl) (by kernel_rfl) (by kernel_rfl) h
/-- escutcheon/mode.less -/
def sh360 (x0 x1 : Value) (Q : Value → Heap → Prop) (H : Heap) : Prop :=
 ev (realV x0) fun v3 =>
 ev (realV x1) fun v4 =>
 ev (fltV .neq v3 v4) fun v5 =>
 Br v5 (
 ev (realV x0) fun v6 =>
 ev (realV x1) fun v7 =>
 ev (fltV .lss v6 v7) fun v8 =>
 Q v8 H) (
 ev (imagV x0) fun v9 =>
 ev (imagV x1) fun v10 =>
 ev (fltV .lss v9 v10) fun v11 =>
 Q v11 H)
theorem T360 {x0 x1 : Value} {Q : Value → Heap → Prop} {H : Heap} (h : sh360 x0 x1 Q H) : T PP 360 [x0, x1] H Q :=
  T_of_eq eok foll .n Tryz.func360 (by kernel_rfl) (by kernel_rfl) (by kernel_rfl) h
/-- slices.siftDownCmpFunc[escutcheon/api.Edge] -/
def sh377 (x0 x1 x2 x3 x4 : Value) (Q : Value → Heap → Prop) (H : Heap) : Prop :=
 ∀ I6 : List Value → Heap → Prop, (∀ H7, ∀ x8, ∀ x9, ∀ x10, ∀ x11, ∀ x12, 
 (ev (intV .mul (.int .i64 2) x12) fun v13 =>
 ev (intV .add v13 (.int .i64 1)) fun v14 =>
 ev (intV .geq v14 x9) fun v15 =>
 Br v15 (
 Q (.tuple #[]) H7) (
 ∀ K16 : List Value → Heap → Prop, (∀ H17, ∀ x18, ∀ x19, ∀ x20, ∀ x21, ∀ x22, ∀ x23, 
 (ev (intV .add x20 x22) fun v24 =>
 ev (ixS 2 x18 v24) fun v25 =>
 ev (ldn 2 H17 v25) fun v26 =>
 ev (intV .add x20 x23) fun v27 =>
 ev (ixS 2 x18 v27) fun v28 =>
 ev (ldn 2 H17 v28) fun v29 =>
 clW PP x21 [v26, v29] H17 fun v30 H31 =>
 ev (intV .lss v30 (.int .i64 0)) fun v32 =>
 ev (unV .not v32) fun v33 =>
 Br v33 (
 Q (.tuple #[]) H31) (
 ev (intV .add x20 x22) fun v34 =>
 ev (intV .add x20 x23) fun v35 =>
 ev (intV .add x20 x23) fun v36 =>
 ev (ixS 2 x18 v36) fun v37 =>
 ev (ldn 2 H31 v37) fun v38 =>
 ev (intV .add x20 x22) fun v39 =>
 ev (ixS 2 x18 v39) fun v40 =>
 ev (ldn 2 H31 v40) fun v41 =>
 ev (ixS 2 x18 v34) fun v42 =>
 ev (sto 2 H31 v42 v38) fun H43 =>
 ev (ixS 2 x18 v35) fun v44 =>
 ev (sto 2 H43 v44 v41) fun H45 =>
 I6 [x18, x19, x20, x21, x23] H45)) → K16 [x18, x19, x20, x21, x22, x23] H17) →
 ∀ K46 : List Value → Heap → Prop, (∀ H47, ∀ x48, ∀ x49, ∀ x50, ∀ x51, ∀ x52, ∀ x53, ∀ x54, 
 (Br x54 (
 ev (intV .add x53 (.int .i64 1)) fun v55 =>
 K16 [x48, x49, x50, x51, x52, v55] H47) (
 K16 [x48, x49, x50, x51, x52, x53] H47)) → K46 [x48, x49, x50, x51, x52, x53, x54] H47) →
 ev (intV .add v14 (.int .i64 1)) fun v56 =>
 ev (intV .lss v56 x9) fun v57 =>
 Br v57 (
 ev (intV .add x10 v14) fun v58 =>
 ev (ixS 2 x8 v58) fun v59 =>
 ev (ldn 2 H7 v59) fun v60 =>
 ev (intV .add x10 v14) fun v61 =>
 ev (intV .add v61 (.int .i64 1)) fun v62 =>
 ev (ixS 2 x8 v62) fun v63 =>
 ev (ldn 2 H7 v63) fun v64 =>
 clW PP x11 [v60, v64] H7 fun v65 H66 =>
 ev (intV .lss v65 (.int .i64 0)) fun v67 =>
 K46 [x8, x9, x10, x11, x12, v14, v67] H66) (
 K46 [x8, x9, x10, x11, x12, v14, (.bool false)] H7))) → I6 [x8, x9, x10, x11, x12] H7) →
 I6 [x0, x2, x3, x4, x1] H
theorem T377 {x0 x1 x2 x3 x4 : Value} {Q : Value → Heap → Prop} {H : Heap} (h : sh377 x0 x1 x2 x3 x4 Q H) : T PP 377 [x0, x1, x2, x3, x4] H Q :=
  T_of_eq eok foll (.s .n (.k (.l [0, 2, 3, 4, 10] (.k (.s .n (.s .n (.j [0, 2, 3, 4, 10, 11] (.j [0, 2, 3, 4, 10, 11, 40] .n .n) .n))))))) Tryz.func377 (by kernel_rfl) (by kernel_rfl) (by kernel_rfl) h
/-- slices.nextPowerOfTwo -/
def sh378 (x0 : Value) (Q : Value → Heap → Prop) (H : Heap) : Prop :=
 ev (convV .u64 x0) fun v2 =>
 T PP 183 [v2] H fun v3 H4 =>
 ev (shV .shl (.int .u64 1) v3) fun v5 =>
 Q v5 H4
theorem T378 {x0 : Value} {Q : Value → Heap → Prop} {H : Heap} (h : sh378 x0 Q H) : T PP 378 [x0] H Q :=
  T_of_eq eok foll .n Tryz.func378 (by kernel_rfl) (by kernel_rfl) (by kernel_rfl) h
/-- (*slices.xorshift).Next -/
def sh379 (x0 : Value) (Q : Value → Heap → Prop) (H : Heap) : Prop :=
 ev (nilV x0) fun v2 =>
 ev (ld1 H v2) fun v3 =>
 ev (nilV x0) fun v4 =>
 ev (ld1 H v4) fun v5 =>
 ev (shV .shl v5 (.int .u64 13)) fun v6 =>
 ev (intV .xor v3 v6) fun v7 =>
 ev (nilV x0) fun v8 =>
 ev (sto 1 H v8 v7) fun H9 =>
 ev (nilV x0) fun v10 =>
 ev (ld1 H9 v10) fun v11 =>
 ev (nilV x0) fun v12 =>
 ev (ld1 H9 v12) fun v13 =>
 ev (shV .shr v13 (.int .u64 7)) fun v14 =>
 ev (intV .xor v11 v14) fun v15 =>
 ev (nilV x0) fun v16 =>
 ev (sto 1 H9 v16 v15) fun H17 =>
 ev (nilV x0) fun v18 =>
 ev (ld1 H17 v18) fun v19 =>
 ev (nilV x0) fun v20 =>
 ev (ld1 H17 v20) fun v21 =>
 ev (shV .shl v21 (.int .u64 17)) fun v22 =>
 ev (intV .xor v19 v22) fun v23 =>
 ev (nilV x0) fun v24 =>
 ev (sto 1 H17 v24 v23) fun H25 =>
 ev (nilV x0) fun v26 =>
 ev (ld1 H25 v26) fun v27 =>
 Q v27 H25
theorem T379 {x0 : Value} {Q : Value → Heap → Prop} {H : Heap} (h : sh379 x0 Q H) : T PP 379 [x0] H Q :=
  T_of_eq eok foll .n Tryz.func379 (by kernel_rfl) (by kernel_rfl) (by kernel_rfl) h
/-- slices.medianAdjacentCmpFunc[escutcheon/api.Edge] -/
def sh380 (x0 x1 x2 x3 : Value) (Q : Value → Heap → Prop) (H : Heap) : Prop :=
 ev (intV .sub x1 (.int .i64 1)) fun v5 =>
 ev (intV .add x1 (.int .i64 1)) fun v6 =>
 T PP 381 [x0, v5, x1, v6, x2, x3] H fun v7 H8 =>
 Q v7 H8
theorem T380 {x0 x1 x2 x3 : Value} {Q : Value → Heap → Prop} {H : Heap} (h : sh380 x0 x1 x2 x3 Q H) : T PP 380 [x0, x1, x2, x3] H Q :=
  T_of_eq eok foll .n Tryz.func380 (by kernel_rfl) (by kernel_rfl) (by kernel_rfl) h
/-- slices.medianCmpFunc[escutcheon/api.Edge] -/
def sh381 (x0 x1 x2 x3 x4 x5 : Value) (Q : Value → Heap → Prop) (H : Heap) : Prop :=
 T PP 418 [x0, x1, x2, x4, x5] H fun v7 H8 =>
 ev (extrV 0 v7) fun v9 =>
 ev (extrV 1 v7) fun v10 =>
 T PP 418 [x0, v10, x3, x4, x5] H8 fun v11 H12 =>
 ev (extrV 0 v11) fun v13 =>
 ev (extrV 1 v11) fun _ =>
 T PP 418 [x0, v9, v13, x4, x5] H12 fun v15 H16 =>
 ev (extrV 0 v15) fun _ =>
 ev (extrV 1 v15) fun v18 =>
 Q v18 H16
theorem T381 {x0 x1 x2 x3 x4 x5 : Value} {Q : Value → Heap → Prop} {H : Heap} (h : sh381 x0 x1 x2 x3 x4 x5 Q H) : T PP 381 [x0, x1, x2, x3, x4, x5] H Q :=
  T_of_eq eok foll .n Tryz.func381 (by kernel_rfl) (by kernel_rfl) (by kernel_rfl) h
/-- slices.siftDownOrdered[int] -/
def sh382 (x0 x1 x2 x3 : Value) (Q : Value → Heap → Prop) (H : Heap) : Prop :=
 ∀ I5 : List Value → Heap → Prop, (∀ H6, ∀ x7, ∀ x8, ∀ x9, ∀ x10, 
 (ev (intV .mul (.int .i64 2) x10) fun v11 =>
 ev (intV .add v11 (.int .i64 1)) fun v12 =>
 ev (intV .geq v12 x8) fun v13 =>
 Br v13 (
 Q (.tuple #[]) H6) (
 ∀ K14 : List Value → Heap → Prop, (∀ H15, ∀ x16, ∀ x17, ∀ x18, ∀ x19, ∀ x20, 
 (ev (intV .add x18 x19) fun v21 =>
 ev (ixS 1 x16 v21) fun v22 =>
 ev (ld1 H15 v22) fun v23 =>
 ev (intV .add x18 x20) fun v24 =>
 ev (ixS 1 x16 v24) fun v25 =>
 ev (ld1 H15 v25) fun v26 =>
 T PP 309 [v23, v26] H15 fun v27 H28 =>
 ev (unV .not v27) fun v29 =>
 Br v29 (
 Q (.tuple #[]) H28) (
 ev (intV .add x18 x19) fun v30 =>
 ev (intV .add x18 x20) fun v31 =>
 ev (intV .add x18 x20) fun v32 =>
 ev (ixS 1 x16 v32) fun v33 =>
 ev (ld1 H28 v33) fun v34 =>
 ev (intV .add x18 x19) fun v35 =>
 ev (ixS 1 x16 v35) fun v36 =>
 ev (ld1 H28 v36) fun v37 =>
 ev (ixS 1 x16 v30) fun v38 =>
 ev (sto 1 H28 v38 v34) fun H39 =>
 ev (ixS 1 x16 v31) fun v40 =>
 ev (sto 1 H39 v40 v37) fun H41 =>
 I5 [x16, x17, x18, x20] H41)) → K14 [x16, x17, x18, x19, x20] H15) →
 ∀ K42 : List Value → Heap → Prop, (∀ H43, ∀ x44, ∀ x45, ∀ x46, ∀ x47, ∀ x48, ∀ x49, 
 (Br x49 (
 ev (intV .add x48 (.int .i64 1)) fun v50 =>
 K14 [x44, x45, x46, x47, v50] H43) (
 K14 [x44, x45, x46, x47, x48] H43)) → K42 [x44, x45, x46, x47, x48, x49] H43) →
 ev (intV .add v12 (.int .i64 1)) fun v51 =>
 ev (intV .lss v51 x8) fun v52 =>
 Br v52 (
 ev (intV .add x9 v12) fun v53 =>
 ev (ixS 1 x7 v53) fun v54 =>
 ev (ld1 H6 v54) fun v55 =>
 ev (intV .add x9 v12) fun v56 =>
 ev (intV .add v56 (.int .i64 1)) fun v57 =>
 ev (ixS 1 x7 v57) fun v58 =>
 ev (ld1 H6 v58) fun v59 =>
 T PP 309 [v55, v59] H6 fun v60 H61 =>
 K42 [x7, x8, x9, x10, v12, v60] H61) (
 K42 [x7, x8, x9, x10, v12, (.bool false)] H6))) → I5 [x7, x8, x9, x10] H6) →
 I5 [x0, x2, x3, x1] H
theorem T382 {x0 x1 x2 x3 : Value} {Q : Value → Heap → Prop} {H : Heap} (h : sh382 x0 x1 x2 x3 Q H) : T PP 382 [x0, x1, x2, x3] H Q :=
  T_of_eq eok foll (.s .n (.k (.l [0, 2, 3, 8] (.k (.s .n (.s .n (.j [0, 2, 3, 8, 9] (.j [0, 2, 3, 8, 9, 36] .n .n) .n))))))) Tryz.func382 (by kernel_rfl) (by kernel_rfl) (by kernel_rfl) h
/-- slices.medianAdjacentOrdered[int] -/
def sh383 (x0 x1 x2 : Value) (Q : Value → Heap → Prop) (H : Heap) : Prop :=
 ev (intV .sub x1 (.int .i64 1)) fun v4 =>
 ev (intV .add x1 (.int .i64 1)) fun v5 =>
 T PP 384 [x0, v4, x1, v5, x2] H fun v6 H7 =>
 Q v6 H7
theorem T383 {x0 x1 x2 : Value} {Q : Value → Heap → Prop} {H : Heap} (h : sh383 x0 x1 x2 Q H) : T PP 383 [x0, x1, x2] H Q :=
  T_of_eq eok foll .n Tryz.func383 (by kernel_rfl) (by kernel_rfl) (by kernel_rfl) h
/-- slices.medianOrdered[int] -/
def sh384 (x0 x1 x2 x3 x4 : Value) (Q : Value → Heap → Prop) (H : Heap) : Prop :=
 T PP 419 [x0, x1, x2, x4] H fun v6 H7 =>
 ev (extrV 0 v6) fun v8 =>
 ev (extrV 1 v6) fun v9 =>
 T PP 419 [x0, v9, x3, x4] H7 fun v10 H11 =>
 ev (extrV 0 v10) fun v12 =>
 ev (extrV 1 v10) fun _ =>
 T PP 419 [x0, v8, v12, x4] H11 fun v14 H15 =>
 ev (extrV 0 v14) fun _ =>
 ev (extrV 1 v14) fun v17 =>
 Q v17 H15
theorem T384 {x0 x1 x2 x3 x4 : Value} {Q : Value → Heap → Prop} {H : Heap} (h : sh384 x0 x1 x2 x3 x4 Q H) : T PP 384 [x0, x1, x2, x3, x4] H Q :=
  T_of_eq eok foll .n Tryz.func384 (by kernel_rfl) (by kernel_rfl) (by kernel_rfl) h
/-- cmp.isNaN[int] -/
def sh385 (x0 : Value) (Q : Value → Heap → Prop) (H : Heap) : Prop :=
 ev (intV .neq x0 x0) fun v2 =>
 Q v2 H
theorem T385 {x0 : Value} {Q : Value → Heap → Prop} {H : Heap} (h : sh385 x0 Q H) : T PP 385 [x0] H Q :=
  T_of_eq eok foll .n Tryz.func385 (by kernel_rfl) (by kernel_rfl) (by kernel_rfl) h
/-- slices.insertionSortCmpFunc[escutcheon/table.head] -/
def sh391 (x0 x1 x2 x3 : Value) (Q : Value → Heap → Prop) (H : Heap) : Prop :=
 ev (intV .add x1 (.int .i64 1)) fun v5 =>
 ∀ I6 : List Value → Heap → Prop, (∀ H7, ∀ x8, ∀ x9, ∀ x10, ∀ x11, ∀ x12, 
 (ev (intV .lss x12 x10) fun v13 =>
 Br v13 (
 ∀ I14 : List Value → Heap → Prop, (∀ H15, ∀ x16, ∀ x17, ∀ x18, ∀ x19, ∀ x20, ∀ x21, 
 (∀ K22 : List Value → Heap → Prop, (∀ H23, ∀ x24, ∀ x25, ∀ x26, ∀ x27, ∀ x28, ∀ x29, ∀ x30, 
 (Br x30 (
 ev (intV .sub x29 (.int .i64 1)) fun v31 =>
 ev (intV .sub x29 (.int .i64 1)) fun v32 =>
 ev (ixS 6 x24 v32) fun v33 =>
 ev (ldn 6 H23 v33) fun v34 =>
 ev (ixS 6 x24 x29) fun v35 =>
 ev (ldn 6 H23 v35) fun v36 =>
 ev (ixS 6 x24 x29) fun v37 =>
 ev (sto 6 H23 v37 v34) fun H38 =>
 ev (ixS 6 x24 v31) fun v39 =>
 ev (sto 6 H38 v39 v36) fun H40 =>
 ev (intV .sub x29 (.int .i64 1)) fun v41 =>
 I14 [x24, x25, x26, x27, x28, v41] H40) (
 ev (intV .add x28 (.int .i64 1)) fun v42 =>
 I6 [x24, x25, x26, x27, v42] H23)) → K22 [x24, x25, x26, x27, x28, x29, x30] H23) →
 ev (intV .gtr x21 x17) fun v43 =>
 Br v43 (
 ev (ixS 6 x16 x21) fun v44 =>
 ev (ldn 6 H15 v44) fun v45 =>
 ev (intV .sub x21 (.int .i64 1)) fun v46 =>
 ev (ixS 6 x16 v46) fun v47 =>
 ev (ldn 6 H15 v47) fun v48 =>
 clW PP x19 [v45, v48] H15 fun v49 H50 =>
 ev (intV .lss v49 (.int .i64 0)) fun v51 =>
 K22 [x16, x17, x18, x19, x20, x21, v51] H50) (
 K22 [x16, x17, x18, x19, x20, x21, (.bool false)] H15)) → I14 [x16, x17, x18, x19, x20, x21] H15) →
 I14 [x8, x9, x10, x11, x12, x12] H7) (
 Q (.tuple #[]) H7)) → I6 [x8, x9, x10, x11, x12] H7) →
 I6 [x0, x1, x2, x3, v5] H
theorem T391 {x0 x1 x2 x3 : Value} {Q : Value → Heap → Prop} {H : Heap} (h : sh391 x0 x1 x2 x3 Q H) : T PP 391 [x0, x1, x2, x3] H Q :=
  T_of_eq eok foll (.s .n (.k (.l [0, 1, 2, 3, 8] (.s .n (.s (.k (.s .n (.k (.l [0, 1, 2, 3, 8, 9] (.s (.j [0, 1, 2, 3, 8, 9, 34] .n .n) .n))))) .n))))) Tryz.func391 (by kernel_rfl) (by kernel_rfl) (by kernel_rfl) h
/-- slices.heapSortCmpFunc[escutcheon/table.head] -/
def sh392 (x0 x1 x2 x3 : Value) (Q : Value → Heap → Prop) (H : Heap) : Prop :=
 ev (intV .sub x2 x1) fun v5 =>
 ev (intV .sub v5 (.int .i64 1)) fun v6 =>
 ev (intV .quo v6 (.int .i64 2)) fun v7 =>
 ∀ I8 : List Value → Heap → Prop, (∀ H9, ∀ x10, ∀ x11, ∀ x12, ∀ x13, ∀ x14, ∀ x15, 
 (ev (intV .geq x15 (.int .i64 0)) fun v16 =>
 Br v16 (
 T PP 420 [x10, x15, x14, x12, x11] H9 fun _ H18 =>
 ev (intV .sub x15 (.int .i64 1)) fun v19 =>
 I8 [x10, x11, x12, x13, x14, v19] H18) (
 ev (intV .sub x14 (.int .i64 1)) fun v20 =>
 ∀ I21 : List Value → Heap → Prop, (∀ H22, ∀ x23, ∀ x24, ∀ x25, ∀ x26, ∀ x27, 
 (ev (intV .geq x27 (.int .i64 0)) fun v28 =>
 Br v28 (
 ev (intV .add x25 x27) fun v29 =>
 ev (intV .add x25 x27) fun v30 =>
 ev (ixS 6 x23 v30) fun v31 =>
 ev (ldn 6 H22 v31) fun v32 =>
 ev (ixS 6 x23 x25) fun v33 =>
 ev (ldn 6 H22 v33) fun v34 =>
 ev (ixS 6 x23 x25) fun v35 =>
 ev (sto 6 H22 v35 v32) fun H36 =>
 ev (ixS 6 x23 v29) fun v37 =>
 ev (sto 6 H36 v37 v34) fun H38 =>
 T PP 420 [x23, x26, x27, x25, x24] H38 fun _ H40 =>
 ev (intV .sub x27 (.int .i64 1)) fun v41 =>
 I21 [x23, x24, x25, x26, v41] H40) (
 Q (.tuple #[]) H22)) → I21 [x23, x24, x25, x26, x27] H22) →
 I21 [x10, x11, x12, x13, v20] H9)) → I8 [x10, x11, x12, x13, x14, x15] H9) →
 I8 [x0, x3, x1, (.int .i64 0), v5, v7] H
theorem T392 {x0 x1 x2 x3 : Value} {Q : Value → Heap → Prop} {H : Heap} (h : sh392 x0 x1 x2 x3 Q H) : T PP 392 [x0, x1, x2, x3] H Q :=
  T_of_eq eok foll (.s .n (.s .n (.s .n (.s (.s .n (.k (.l [0, 3, 8, 9, 10, 11] .n))) (.s .n (.k (.l [0, 3, 8, 9, 12] .n))))))) Tryz.func392 (by kernel_rfl) (by kernel_rfl) (by kernel_rfl) h
/-- slices.breakPatternsCmpFunc[escutcheon/table.head] -/
def sh393 (x0 x1 x2 _ : Value) (Q : Value → Heap → Prop) (H : Heap) : Prop :=
 ev (intV .sub x2 x1) fun v5 =>
 ev (intV .geq v5 (.int .i64 8)) fun v6 =>
 Br v6 (
 ev (convV .u64 v5) fun v7 =>
 alW 410 [(.int .u64 0)] H fun v8 H9 =>
 ev (sto 1 H9 v8 v7) fun H10 =>
 T PP 378 [v5] H10 fun v11 H12 =>
 ev (intV .quo v5 (.int .i64 4)) fun v13 =>
 ev (intV .mul v13 (.int .i64 2)) fun v14 =>
 ev (intV .add x1 v14) fun v15 =>
 ev (intV .sub v15 (.int .i64 1)) fun v16 =>
 ∀ I17 : List Value → Heap → Prop, (∀ H18, ∀ x19, ∀ x20, ∀ x21, ∀ x22, ∀ x23, ∀ x24, 
 (ev (intV .quo x21 (.int .i64 4)) fun v25 =>
 ev (intV .mul v25 (.int .i64 2)) fun v26 =>
 ev (intV .add x20 v26) fun v27 =>
 ev (intV .add v27 (.int .i64 1)) fun v28 =>
 ev (intV .leq x24 v28) fun v29 =>
 Br v29 (
 T PP 379 [x22] H18 fun v30 H31 =>
 ev (intV .sub x23 (.int .u64 1)) fun v32 =>
 ev (intV .and v30 v32) fun v33 =>
 ev (convV .i64 v33) fun v34 =>
 ∀ K35 : List Value → Heap → Prop, (∀ H36, ∀ x37, ∀ x38, ∀ x39, ∀ x40, ∀ x41, ∀ x42, ∀ x43, 
 (ev (intV .add x38 x43) fun v44 =>
 ev (intV .add x38 x43) fun v45 =>
 ev (ixS 6 x37 v45) fun v46 =>
 ev (ldn 6 H36 v46) fun v47 =>
 ev (ixS 6 x37 x42) fun v48 =>
 ev (ldn 6 H36 v48) fun v49 =>
 ev (ixS 6 x37 x42) fun v50 =>
 ev (sto 6 H36 v50 v47) fun H51 =>
 ev (ixS 6 x37 v44) fun v52 =>
 ev (sto 6 H51 v52 v49) fun H53 =>
 ev (intV .add x42 (.int .i64 1)) fun v54 =>
 I17 [x37, x38, x39, x40, x41, v54] H53) → K35 [x37, x38, x39, x40, x41, x42, x43] H36) →
 ev (intV .geq v34 x21) fun v55 =>
 Br v55 (
 ev (intV .sub v34 x21) fun v56 =>
 K35 [x19, x20, x21, x22, x23, x24, v56] H31) (
 K35 [x19, x20, x21, x22, x23, x24, v34] H31)) (
 Q (.tuple #[]) H18)) → I17 [x19, x20, x21, x22, x23, x24] H18) →
 I17 [x0, x1, v5, v8, v11, v16] H12) (
 Q (.tuple #[]) H)
theorem T393 {x0 x1 x2 x3 : Value} {Q : Value → Heap → Prop} {H : Heap} (h : sh393 x0 x1 x2 x3 Q H) : T PP 393 [x0, x1, x2, x3] H Q :=
  T_of_eq eok foll (.s .n (.s .n (.c (.s .n (.s .n (.s .n (.k (.l [0, 1, 8, 9, 10, 11] (.s .n (.s (.k (.s .n (.j [0, 1, 8, 9, 10, 11, 12] .n .n))) .n))))))) .n))) Tryz.func393 (by kernel_rfl) (by kernel_rfl) (by kernel_rfl) h
/-- slices.choosePivotCmpFunc[escutcheon/table.head] -/
def sh394 (x0 x1 x2 x3 : Value) (Q : Value → Heap → Prop) (H : Heap) : Prop :=
 ev (intV .sub x2 x1) fun v5 =>
 alW 3 [(.int .i64 0)] H fun v6 H7 =>
 ev (intV .quo v5 (.int .i64 4)) fun v8 =>
 ev (intV .mul v8 (.int .i64 1)) fun v9 =>
 ev (intV .add x1 v9) fun v10 =>
 ev (intV .quo v5 (.int .i64 4)) fun v11 =>
 ev (intV .mul v11 (.int .i64 2)) fun v12 =>
 ev (intV .add x1 v12) fun v13 =>
 ev (intV .quo v5 (.int .i64 4)) fun v14 =>
 ev (intV .mul v14 (.int .i64 3)) fun v15 =>
 ev (intV .add x1 v15) fun v16 =>
 ∀ K17 : List Value → Heap → Prop, (∀ H18, ∀ x19, ∀ x20, 
 (ev (ld1 H18 x19) fun v21 =>
 ev (intV .eql v21 (.int .i64 0)) fun v22 =>
 Br v22 (
 Q (.tuple #[x20, (.int .i64 1)]) H18) (
 ev (intV .eql v21 (.int .i64 12)) fun v23 =>
 Br v23 (
 Q (.tuple #[x20, (.int .i64 2)]) H18) (
 Q (.tuple #[x20, (.int .i64 0)]) H18))) → K17 [x19, x20] H18) →
 ev (intV .geq v5 (.int .i64 8)) fun v24 =>
 Br v24 (
 ∀ K25 : List Value → Heap → Prop, (∀ H26, ∀ x27, ∀ x28, ∀ x29, ∀ x30, ∀ x31, ∀ x32, 
 (T PP 422 [x27, x30, x31, x32, x29, x28] H26 fun v33 H34 =>
 K17 [x29, v33] H34) → K25 [x27, x28, x29, x30, x31, x32] H26) →
 ev (intV .geq v5 (.int .i64 50)) fun v35 =>
 Br v35 (
 T PP 421 [x0, v10, v6, x3] H7 fun v36 H37 =>
 T PP 421 [x0, v13, v6, x3] H37 fun v38 H39 =>
 T PP 421 [x0, v16, v6, x3] H39 fun v40 H41 =>
 K25 [x0, x3, v6, v36, v38, v40] H41) (
 K25 [x0, x3, v6, v10, v13, v16] H7)) (
 K17 [v6, v13] H7)
theorem T394 {x0 x1 x2 x3 : Value} {Q : Value → Heap → Prop} {H : Heap} (h : sh394 x0 x1 x2 x3 Q H) : T PP 394 [x0, x1, x2, x3] H Q :=
  T_of_eq eok foll (.s .n (.s .n (.s .n (.s .n (.s .n (.s .n (.j [11, 13] (.s .n (.c (.j [0, 3, 11, 12, 13, 14] .n .n) .n)) .n))))))) Tryz.func394 (by kernel_rfl) (by kernel_rfl) (by kernel_rfl) h
/-- slices.reverseRangeCmpFunc[escutcheon/table.head] -/
def sh395 (x0 x1 x2 _ : Value) (Q : Value → Heap → Prop) (H : Heap) : Prop :=
 ev (intV .sub x2 (.int .i64 1)) fun v5 =>
 ∀ I6 : List Value → Heap → Prop, (∀ H7, ∀ x8, ∀ x9, ∀ x10, 
 (ev (intV .lss x9 x10) fun v11 =>
 Br v11 (
 ev (ixS 6 x8 x10) fun v12 =>
 ev (ldn 6 H7 v12) fun v13 =>
 ev (ixS 6 x8 x9) fun v14 =>
 ev (ldn 6 H7 v14) fun v15 =>
 ev (ixS 6 x8 x9) fun v16 =>
 ev (sto 6 H7 v16 v13) fun H17 =>
 ev (ixS 6 x8 x10) fun v18 =>
 ev (sto 6 H17 v18 v15) fun H19 =>
 ev (intV .add x9 (.int .i64 1)) fun v20 =>
 ev (intV .sub x10 (.int .i64 1)) fun v21 =>
 I6 [x8, v20, v21] H19) (
 Q (.tuple #[]) H7)) → I6 [x8, x9, x10] H7) →
 I6 [x0, x1, v5] H
theorem T395 {x0 x1 x2 x3 : Value} {Q : Value → Heap → Prop} {H : Heap} (h : sh395 x0 x1 x2 x3 Q H) : T PP 395 [x0, x1, x2, x3] H Q :=
  T_of_eq eok foll (.s .n (.s .n (.k (.l [0, 8, 9] .n)))) Tryz.func395 (by kernel_rfl) (by kernel_rfl) (by kernel_rfl) h
end Go.Sl

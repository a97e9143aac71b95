/- Printed by a program: what each Go function asks, and that this is enough (first part). -/
import Derived.Test.YtjneoighgbggcaaGreatB0
namespace Go.Sl
open Go Go.Proofs

/-- escutcheon/escutcheonlaw14.GraphLists -/
def sh3 (x0 x1 : Value) (Q : Value → Heap → Prop) (H : Heap) : Prop :=
 T PP 12 [] H fun v3 H4 =>
 ev (unV .not v3) fun v5 =>
 Br v5 (
 Q (.bool false) H4) (
 ev (lenS x0) fun v6 =>
 ev (intV .gtr v6 (.int .i64 60)) fun v7 =>
 Br v7 (
 Q (.bool true) H4) (
 T PP 13 [x0] H4 fun v8 H9 =>
 ev (lenS v8) fun v10 =>
 ∀ I11 : List Value → Heap → Prop, (∀ H12, ∀ x13, ∀ x14, ∀ x15, ∀ x16, ∀ x17, 
 (ev (intV .lss x17 x16) fun v18 =>
 Br v18 (
 ∀ K19 : List Value → Heap → Prop, (∀ H20, ∀ x21, ∀ x22, ∀ x23, ∀ x24, ∀ x25, ∀ x26, 
 (Br x26 (
 Q (.bool false) H20) (
 ev (intV .add x25 (.int .i64 1)) fun v27 =>
 I11 [x21, x22, x23, x24, v27] H20)) → K19 [x21, x22, x23, x24, x25, x26] H20) →
 ev (intV .gtr x17 (.int .i64 0)) fun v28 =>
 Br v28 (
 ev (intV .sub x17 (.int .i64 1)) fun v29 =>
 ev (ixS 2 x15 v29) fun v30 =>
 ev (ldn 2 H12 v30) fun v31 =>
 ev (ixS 2 x15 x17) fun v32 =>
 ev (ldn 2 H12 v32) fun v33 =>
 T PP 14 [v31, v33] H12 fun v34 H35 =>
 ev (unV .not v34) fun v36 =>
 Br v36 (
 K19 [x13, x14, x15, x16, x17, (.bool true)] H35) (
 ev (ixS 2 x15 x17) fun v37 =>
 ev (ldn 2 H35 v37) fun v38 =>
 ev (intV .sub x17 (.int .i64 1)) fun v39 =>
 ev (ixS 2 x15 v39) fun v40 =>
 ev (ldn 2 H35 v40) fun v41 =>
 T PP 14 [v38, v41] H35 fun v42 H43 =>
 K19 [x13, x14, x15, x16, x17, v42] H43)) (
 K19 [x13, x14, x15, x16, x17, (.bool false)] H12)) (
 T PP 16 [x13] H12 fun v44 H45 =>
 T PP 15 [x15, v44] H45 fun v46 H47 =>
 Br v46 (
 T PP 13 [x15] H47 fun v48 H49 =>
 T PP 15 [v48, x15] H49 fun v50 H51 =>
 Br v50 (
 T PP 18 [x13, x14] H51 fun v52 H53 =>
 T PP 19 [x13, x14] H53 fun v54 H55 =>
 T PP 17 [v52, v54] H55 fun v56 H57 =>
 Br v56 (
 T PP 20 [x13] H57 fun v58 H59 =>
 T PP 21 [x13] H59 fun v60 H61 =>
 T PP 17 [v58, v60] H61 fun v62 H63 =>
 Q v62 H63) (
 Q (.bool false) H57)) (
 Q (.bool false) H51)) (
 Q (.bool false) H47))) → I11 [x13, x14, x15, x16, x17] H12) →
 I11 [x0, x1, v8, v10, (.int .i64 0)] H9))
theorem T3 {x0 x1 : Value} {Q : Value → Heap → Prop} {H : Heap} (h : sh3 x0 x1 Q H) : T PP 3 [x0, x1] H Q :=
  T_of_eq eok foll (.s .n (.s .n (.s .n (.s .n (.s (.s .n (.k (.l [0, 1, 5, 15, 16] (.s .n (.s .n (.s (.k (.s .n (.j [0, 1, 5, 15, 16, 45] .n .n))) .n)))))) .n))))) Tryz.func3 (by kernel_rfl) (by kernel_rfl) (by kernel_rfl) h
/-- escutcheon/escutcheonlaw14.awake -/
def sh12 (Q : Value → Heap → Prop) (H : Heap) : Prop :=
 T PP 23 [(.int .i64 9), (.int .i64 9)] H fun v1 H2 =>
 ev (bldV [(.int .i64 0), (.int .i64 0), (.int .i64 0), (.int .i64 0)] [(0, 1, (.int .i64 1))]) fun v3 =>
 ev (bldV [(.int .i64 0), (.int .i64 0), (.int .i64 0), (.int .i64 0), (.int .i64 0)] [(0, 4, v3), (4, 1, (.int .i64 1))]) fun v4 =>
 alW 39 [(.int .i64 0), (.int .i64 0), (.int .i64 0), (.int .i64 0), (.int .i64 0)] H2 fun v5 H6 =>
 ev (sto 5 H6 v5 v4) fun H7 =>
 ev (ldn 5 H7 v5) fun v8 =>
 T PP 73 [v1, (.int .i64 1), v8, (.int .i64 6), (.int .i64 0)] H7 fun _ H10 =>
 ev (ldn 5 H10 v5) fun v11 =>
 T PP 73 [v1, (.int .i64 2), v11, (.int .i64 3), (.int .i64 0)] H10 fun _ H13 =>
 ev (ldn 5 H13 v5) fun v14 =>
 T PP 73 [v1, (.int .i64 3), v14, (.int .i64 3), (.int .i64 0)] H13 fun _ H16 =>
 T PP 84 [v1] H16 fun v17 H18 =>
 ev (bldV [(.int .i64 0), (.int .i64 0)] [(0, 1, (.int .i64 2)), (1, 1, (.int .i64 1))]) fun v19 =>
 ev (bldV [(.int .i64 0), (.int .i64 0)] [(0, 1, (.int .i64 3)), (1, 1, (.int .i64 1))]) fun v20 =>
 ev (bldV [(.int .i64 0), (.int .i64 0)] [(0, 1, (.int .i64 3)), (1, 1, (.int .i64 2))]) fun v21 =>
 ev (bldL (zRow 3 [(.int .i64 0), (.int .i64 0)]) [(0, 2, v19), (2, 2, v20), (4, 2, v21)]) fun l22 =>
 nsW 27 3 3 l22 H18 fun v23 H24 =>
 T PP 15 [v17, v23] H24 fun v25 H26 =>
 Q v25 H26
theorem T12 {Q : Value → Heap → Prop} {H : Heap} (h : sh12 Q H) : T PP 12 [] H Q :=
  T_of_eq eok foll .n Tryz.func12 (by kernel_rfl) (by kernel_rfl) (by kernel_rfl) h
/-- escutcheon/graph.Sort -/
def sh13 (x0 : Value) (Q : Value → Heap → Prop) (H : Heap) : Prop :=
 T PP 85 [x0] H fun v2 H3 =>
 T PP 86 [v2, (.func (.func 87) #[] #[])] H3 fun _ H5 =>
 T PP 88 [v2] H5 fun v6 H7 =>
 Q v6 H7
theorem T13 {x0 : Value} {Q : Value → Heap → Prop} {H : Heap} (h : sh13 x0 Q H) : T PP 13 [x0] H Q :=
  T_of_eq eok foll .n Tryz.func13 (by kernel_rfl) (by kernel_rfl) (by kernel_rfl) h
/-- escutcheon/graph.Less -/
def sh14 (x0 x1 : Value) (Q : Value → Heap → Prop) (H : Heap) : Prop :=
 alW 27 (Value.cells x0).toList H fun v3 H4 =>
 alW 27 (Value.cells x1).toList H4 fun v5 H6 =>
 ev (fldA 0 v3) fun v7 =>
 ev (ld1 H6 v7) fun v8 =>
 ev (fldA 0 v5) fun v9 =>
 ev (ld1 H6 v9) fun v10 =>
 ev (intV .neq v8 v10) fun v11 =>
 Br v11 (
 ev (fldA 0 v3) fun v12 =>
 ev (ld1 H6 v12) fun v13 =>
 ev (fldA 0 v5) fun v14 =>
 ev (ld1 H6 v14) fun v15 =>
 ev (intV .lss v13 v15) fun v16 =>
 Q v16 H6) (
 ev (fldA 1 v3) fun v17 =>
 ev (ld1 H6 v17) fun v18 =>
 ev (fldA 1 v5) fun v19 =>
 ev (ld1 H6 v19) fun v20 =>
 ev (intV .lss v18 v20) fun v21 =>
 Q v21 H6)
theorem T14 {x0 x1 : Value} {Q : Value → Heap → Prop} {H : Heap} (h : sh14 x0 x1 Q H) : T PP 14 [x0, x1] H Q :=
  T_of_eq eok foll .n Tryz.func14 (by kernel_rfl) (by kernel_rfl) (by kernel_rfl) h
/-- escutcheon/escutcheonref10.SameEdges -/
def sh15 (x0 x1 : Value) (Q : Value → Heap → Prop) (H : Heap) : Prop :=
 ev (lenS x0) fun v3 =>
 ev (lenS x1) fun v4 =>
 ev (intV .neq v3 v4) fun v5 =>
 Br v5 (
 Q (.bool false) H) (
 ev (lenS x0) fun v6 =>
 ∀ I7 : List Value → Heap → Prop, (∀ H8, ∀ x9, ∀ x10, ∀ x11, ∀ x12, 
 (ev (intV .lss x12 x11) fun v13 =>
 Br v13 (
 ev (ixS 2 x9 x12) fun v14 =>
 ev (ldn 2 H8 v14) fun v15 =>
 ev (ixS 2 x10 x12) fun v16 =>
 ev (ldn 2 H8 v16) fun v17 =>
 ev (notB true (eqA [(.int .i64 0), (.int .i64 0)] v15 v17)) fun v18 =>
 Br v18 (
 Q (.bool false) H8) (
 ev (intV .add x12 (.int .i64 1)) fun v19 =>
 I7 [x9, x10, x11, v19] H8)) (
 Q (.bool true) H8)) → I7 [x9, x10, x11, x12] H8) →
 I7 [x0, x1, v6, (.int .i64 0)] H)
theorem T15 {x0 x1 : Value} {Q : Value → Heap → Prop} {H : Heap} (h : sh15 x0 x1 Q H) : T PP 15 [x0, x1] H Q :=
  T_of_eq eok foll (.s .n (.s .n (.s (.s .n (.k (.l [0, 1, 12, 13] .n))) .n))) Tryz.func15 (by kernel_rfl) (by kernel_rfl) (by kernel_rfl) h
/-- escutcheon/escutcheonref10.Sort -/
def sh16 (x0 : Value) (Q : Value → Heap → Prop) (H : Heap) : Prop :=
 ev (lenS x0) fun v2 =>
 ∀ I3 : List Value → Heap → Prop, (∀ H4, ∀ x5, ∀ x6, ∀ x7, ∀ x8, 
 (ev (intV .lss x8 x7) fun v9 =>
 Br v9 (
 ∀ K10 : List Value → Heap → Prop, (∀ H11, ∀ x12, ∀ x13, ∀ x14, ∀ x15, 
 (ev (intV .add x15 (.int .i64 1)) fun v16 =>
 I3 [x12, x13, x14, v16] H11) → K10 [x12, x13, x14, x15] H11) →
 ev (ixS 2 x6 x8) fun v17 =>
 ev (ldn 2 H4 v17) fun v18 =>
 alW 27 [(.int .i64 0), (.int .i64 0)] H4 fun v19 H20 =>
 ev (sto 2 H20 v19 v18) fun H21 =>
 ∀ I22 : List Value → Heap → Prop, (∀ H23, ∀ x24, ∀ x25, ∀ x26, ∀ x27, ∀ x28, ∀ x29, 
 (∀ K30 : List Value → Heap → Prop, (∀ H31, ∀ x32, ∀ x33, ∀ x34, ∀ x35, ∀ x36, ∀ x37, ∀ x38, 
 (Br x38 (
 ev (intV .add x34 (.int .i64 1)) fun v39 =>
 I22 [x32, x33, v39, x35, x36, x37] H31) (
 ∀ K40 : List Value → Heap → Prop, (∀ H41, ∀ x42, ∀ x43, ∀ x44, ∀ x45, ∀ x46, ∀ x47, ∀ x48, 
 (Br x48 (
 K10 [x42, x45, x46, x47] H41) (
 ev (slV 2 x42 none (some x44) (some x44)) fun v49 =>
 ev (ldn 2 H41 x43) fun v50 =>
 ev (slV 2 x42 (some x44) none none) fun v51 =>
 ev (bldL (zRow 1 [(.int .i64 0), (.int .i64 0)]) [(0, 2, v50)]) fun l52 =>
 nsW 27 1 1 l52 H41 fun v53 H54 =>
 appW PP 22 22 v53 v51 H54 fun v55 H56 =>
 appW PP 22 22 v49 v55 H56 fun v57 H58 =>
 K10 [v57, x45, x46, x47] H58)) → K40 [x42, x43, x44, x45, x46, x47, x48] H41) →
 ev (lenS x32) fun v59 =>
 ev (intV .lss x34 v59) fun v60 =>
 Br v60 (
 ev (ixS 2 x32 x34) fun v61 =>
 ev (ldn 2 H31 v61) fun v62 =>
 ev (ldn 2 H31 x33) fun v63 =>
 ev (notB false (eqA [(.int .i64 0), (.int .i64 0)] v62 v63)) fun v64 =>
 K40 [x32, x33, x34, x35, x36, x37, v64] H31) (
 K40 [x32, x33, x34, x35, x36, x37, (.bool false)] H31))) → K30 [x32, x33, x34, x35, x36, x37, x38] H31) →
 ev (lenS x24) fun v65 =>
 ev (intV .lss x26 v65) fun v66 =>
 Br v66 (
 ev (ixS 2 x24 x26) fun v67 =>
 ev (fldA 0 v67) fun v68 =>
 ev (ld1 H23 v68) fun v69 =>
 ev (fldA 0 x25) fun v70 =>
 ev (ld1 H23 v70) fun v71 =>
 ev (intV .lss v69 v71) fun v72 =>
 Br v72 (
 K30 [x24, x25, x26, x27, x28, x29, (.bool true)] H23) (
 ev (ixS 2 x24 x26) fun v73 =>
 ev (fldA 0 v73) fun v74 =>
 ev (ld1 H23 v74) fun v75 =>
 ev (fldA 0 x25) fun v76 =>
 ev (ld1 H23 v76) fun v77 =>
 ev (intV .eql v75 v77) fun v78 =>
 Br v78 (
 ev (ixS 2 x24 x26) fun v79 =>
 ev (fldA 1 v79) fun v80 =>
 ev (ld1 H23 v80) fun v81 =>
 ev (fldA 1 x25) fun v82 =>
 ev (ld1 H23 v82) fun v83 =>
 ev (intV .lss v81 v83) fun v84 =>
 K30 [x24, x25, x26, x27, x28, x29, v84] H23) (
 K30 [x24, x25, x26, x27, x28, x29, (.bool false)] H23))) (
 K30 [x24, x25, x26, x27, x28, x29, (.bool false)] H23)) → I22 [x24, x25, x26, x27, x28, x29] H23) →
 I22 [x5, v19, (.int .i64 0), x6, x7, x8] H21) (
 Q x5 H4)) → I3 [x5, x6, x7, x8] H4) →
 I3 [(.slice none 0 0), x0, v2, (.int .i64 0)] H
theorem T16 {x0 : Value} {Q : Value → Heap → Prop} {H : Heap} (h : sh16 x0 Q H) : T PP 16 [x0] H Q :=
  T_of_eq eok foll (.s .n (.s .n (.s (.s .n (.k (.l [3, 7, 8, 9] (.s .n (.s .n (.j [3, 7, 8, 9] (.k (.s .n (.s .n (.s (.k (.l [3, 5, 6, 7, 8, 9] (.s (.j [3, 5, 6, 7, 8, 9, 46] .n .n) .n))) (.s (.j [3, 5, 6, 7, 8, 9, 60] .n .n) .n))))) .n)))))) .n))) Tryz.func16 (by kernel_rfl) (by kernel_rfl) (by kernel_rfl) h
/-- escutcheon/escutcheonref01.SameInts -/
def sh17 (x0 x1 : Value) (Q : Value → Heap → Prop) (H : Heap) : Prop :=
 ev (lenS x0) fun v3 =>
 ev (lenS x1) fun v4 =>
 ev (intV .neq v3 v4) fun v5 =>
 Br v5 (
 Q (.bool false) H) (
 ev (lenS x0) fun v6 =>
 ∀ I7 : List Value → Heap → Prop, (∀ H8, ∀ x9, ∀ x10, ∀ x11, ∀ x12, 
 (ev (intV .lss x12 x11) fun v13 =>
 Br v13 (
 ev (ixS 1 x9 x12) fun v14 =>
 ev (ld1 H8 v14) fun v15 =>
 ev (ixS 1 x10 x12) fun v16 =>
 ev (ld1 H8 v16) fun v17 =>
 ev (intV .neq v15 v17) fun v18 =>
 Br v18 (
 Q (.bool false) H8) (
 ev (intV .add x12 (.int .i64 1)) fun v19 =>
 I7 [x9, x10, x11, v19] H8)) (
 Q (.bool true) H8)) → I7 [x9, x10, x11, x12] H8) →
 I7 [x0, x1, v6, (.int .i64 0)] H)
theorem T17 {x0 x1 : Value} {Q : Value → Heap → Prop} {H : Heap} (h : sh17 x0 x1 Q H) : T PP 17 [x0, x1] H Q :=
  T_of_eq eok foll (.s .n (.s .n (.s (.s .n (.k (.l [0, 1, 12, 13] .n))) .n))) Tryz.func17 (by kernel_rfl) (by kernel_rfl) (by kernel_rfl) h
/-- escutcheon/graph.From -/
def sh18 (x0 x1 : Value) (Q : Value → Heap → Prop) (H : Heap) : Prop :=
 T PP 13 [x0] H fun v3 H4 =>
 ev (lenS v3) fun v5 =>
 ∀ I6 : List Value → Heap → Prop, (∀ H7, ∀ x8, ∀ x9, ∀ x10, ∀ x11, ∀ x12, 
 (ev (intV .lss x12 x11) fun v13 =>
 Br v13 (
 ∀ K14 : List Value → Heap → Prop, (∀ H15, ∀ x16, ∀ x17, ∀ x18, ∀ x19, ∀ x20, 
 (ev (intV .add x20 (.int .i64 1)) fun v21 =>
 I6 [x16, x17, x18, x19, v21] H15) → K14 [x16, x17, x18, x19, x20] H15) →
 ev (ixS 2 x10 x12) fun v22 =>
 ev (ldn 2 H7 v22) fun v23 =>
 alW 27 [(.int .i64 0), (.int .i64 0)] H7 fun v24 H25 =>
 ev (sto 2 H25 v24 v23) fun H26 =>
 ev (fldA 0 v24) fun v27 =>
 ev (ld1 H26 v27) fun v28 =>
 ev (intV .eql v28 x8) fun v29 =>
 Br v29 (
 ev (fldA 1 v24) fun v30 =>
 ev (ld1 H26 v30) fun v31 =>
 ev (bldL (zRow 1 [(.int .i64 0)]) [(0, 1, v31)]) fun l32 =>
 nsW 3 1 1 l32 H26 fun v33 H34 =>
 appW PP 30 30 x9 v33 H34 fun v35 H36 =>
 K14 [x8, v35, x10, x11, x12] H36) (
 K14 [x8, x9, x10, x11, x12] H26)) (
 Q x9 H7)) → I6 [x8, x9, x10, x11, x12] H7) →
 I6 [x1, (.slice none 0 0), v3, v5, (.int .i64 0)] H4
theorem T18 {x0 x1 : Value} {Q : Value → Heap → Prop} {H : Heap} (h : sh18 x0 x1 Q H) : T PP 18 [x0, x1] H Q :=
  T_of_eq eok foll (.s .n (.s .n (.s (.s .n (.k (.l [1, 5, 9, 10, 11] (.s .n (.s .n (.j [1, 5, 9, 10, 11] .n .n)))))) .n))) Tryz.func18 (by kernel_rfl) (by kernel_rfl) (by kernel_rfl) h
/-- escutcheon/escutcheonref10.From -/
def sh19 (x0 x1 : Value) (Q : Value → Heap → Prop) (H : Heap) : Prop :=
 ev (lenS x0) fun v3 =>
 ∀ I4 : List Value → Heap → Prop, (∀ H5, ∀ x6, ∀ x7, ∀ x8, ∀ x9, ∀ x10, 
 (ev (intV .lss x10 x9) fun v11 =>
 Br v11 (
 ∀ K12 : List Value → Heap → Prop, (∀ H13, ∀ x14, ∀ x15, ∀ x16, ∀ x17, ∀ x18, 
 (ev (intV .add x18 (.int .i64 1)) fun v19 =>
 I4 [x14, x15, x16, x17, v19] H13) → K12 [x14, x15, x16, x17, x18] H13) →
 ev (ixS 2 x8 x10) fun v20 =>
 ev (ldn 2 H5 v20) fun v21 =>
 alW 27 [(.int .i64 0), (.int .i64 0)] H5 fun v22 H23 =>
 ev (sto 2 H23 v22 v21) fun H24 =>
 ev (fldA 0 v22) fun v25 =>
 ev (ld1 H24 v25) fun v26 =>
 ev (intV .eql v26 x6) fun v27 =>
 Br v27 (
 ev (fldA 1 v22) fun v28 =>
 ev (ld1 H24 v28) fun v29 =>
 ev (bldL (zRow 1 [(.int .i64 0)]) [(0, 1, v29)]) fun l30 =>
 nsW 3 1 1 l30 H24 fun v31 H32 =>
 appW PP 30 30 x7 v31 H32 fun v33 H34 =>
 K12 [x6, v33, x8, x9, x10] H34) (
 K12 [x6, x7, x8, x9, x10] H24)) (
 T PP 30 [x7] H5 fun v35 H36 =>
 Q v35 H36)) → I4 [x6, x7, x8, x9, x10] H5) →
 I4 [x1, (.slice none 0 0), x0, v3, (.int .i64 0)] H
theorem T19 {x0 x1 : Value} {Q : Value → Heap → Prop} {H : Heap} (h : sh19 x0 x1 Q H) : T PP 19 [x0, x1] H Q :=
  T_of_eq eok foll (.s .n (.s .n (.s (.s .n (.k (.l [1, 5, 8, 9, 10] (.s .n (.s .n (.j [1, 5, 8, 9, 10] .n .n)))))) .n))) Tryz.func19 (by kernel_rfl) (by kernel_rfl) (by kernel_rfl) h
/-- escutcheon/graph.Nodes -/
def sh20 (x0 : Value) (Q : Value → Heap → Prop) (H : Heap) : Prop :=
 ev (lenS x0) fun v2 =>
 ∀ I3 : List Value → Heap → Prop, (∀ H4, ∀ x5, ∀ x6, ∀ x7, ∀ x8, 
 (ev (intV .lss x8 x7) fun v9 =>
 Br v9 (
 ev (ixS 2 x6 x8) fun v10 =>
 ev (ldn 2 H4 v10) fun v11 =>
 alW 27 [(.int .i64 0), (.int .i64 0)] H4 fun v12 H13 =>
 ev (sto 2 H13 v12 v11) fun H14 =>
 ev (fldA 0 v12) fun v15 =>
 ev (ld1 H14 v15) fun v16 =>
 ev (fldA 1 v12) fun v17 =>
 ev (ld1 H14 v17) fun v18 =>
 ev (bldL (zRow 2 [(.int .i64 0)]) [(0, 1, v16), (1, 1, v18)]) fun l19 =>
 nsW 3 2 2 l19 H14 fun v20 H21 =>
 appW PP 30 30 x5 v20 H21 fun v22 H23 =>
 ev (intV .add x8 (.int .i64 1)) fun v24 =>
 I3 [v22, x6, x7, v24] H23) (
 T PP 89 [x5] H4 fun _ H26 =>
 T PP 90 [x5] H26 fun v27 H28 =>
 Q v27 H28)) → I3 [x5, x6, x7, x8] H4) →
 I3 [(.slice none 0 0), x0, v2, (.int .i64 0)] H
theorem T20 {x0 : Value} {Q : Value → Heap → Prop} {H : Heap} (h : sh20 x0 Q H) : T PP 20 [x0] H Q :=
  T_of_eq eok foll (.s .n (.s .n (.s (.s .n (.k (.l [3, 6, 7, 8] .n))) .n))) Tryz.func20 (by kernel_rfl) (by kernel_rfl) (by kernel_rfl) h
/-- escutcheon/escutcheonref10.Nodes -/
def sh21 (x0 : Value) (Q : Value → Heap → Prop) (H : Heap) : Prop :=
 ev (lenS x0) fun v2 =>
 ∀ I3 : List Value → Heap → Prop, (∀ H4, ∀ x5, ∀ x6, ∀ x7, ∀ x8, 
 (ev (intV .lss x8 x7) fun v9 =>
 Br v9 (
 ev (ixS 2 x6 x8) fun v10 =>
 ev (ldn 2 H4 v10) fun v11 =>
 alW 27 [(.int .i64 0), (.int .i64 0)] H4 fun v12 H13 =>
 ev (sto 2 H13 v12 v11) fun H14 =>
 ev (fldA 0 v12) fun v15 =>
 ev (ld1 H14 v15) fun v16 =>
 ev (fldA 1 v12) fun v17 =>
 ev (ld1 H14 v17) fun v18 =>
 ev (bldL (zRow 2 [(.int .i64 0)]) [(0, 1, v16), (1, 1, v18)]) fun l19 =>
 nsW 3 2 2 l19 H14 fun v20 H21 =>
 appW PP 30 30 x5 v20 H21 fun v22 H23 =>
 ev (intV .add x8 (.int .i64 1)) fun v24 =>
 I3 [v22, x6, x7, v24] H23) (
 T PP 30 [x5] H4 fun v25 H26 =>
 Q v25 H26)) → I3 [x5, x6, x7, x8] H4) →
 I3 [(.slice none 0 0), x0, v2, (.int .i64 0)] H
theorem T21 {x0 : Value} {Q : Value → Heap → Prop} {H : Heap} (h : sh21 x0 Q H) : T PP 21 [x0] H Q :=
  T_of_eq eok foll (.s .n (.s .n (.s (.s .n (.k (.l [3, 6, 7, 8] .n))) .n))) Tryz.func21 (by kernel_rfl) (by kernel_rfl) (by kernel_rfl) h
/-- escutcheon/table.New -/
def sh23 (x0 x1 : Value) (Q : Value → Heap → Prop) (H : Heap) : Prop :=
 ev (maxV x0 (.int .i64 0)) fun v3 =>
 ev (minV v3 (.int .i64 256)) fun v4 =>
 T PP 92 [v4] H fun v5 H6 =>
 T PP 93 [] H6 fun v7 H8 =>
 ev (maxV x1 (.int .i64 0)) fun v9 =>
 ev (minV v9 (.int .i64 1024)) fun v10 =>
 ev (bldV [(.pointer none), (.pointer none), (.int .i64 0), (.int .i64 0), (.int .i64 0)] [(0, 1, v5), (1, 1, v7), (2, 1, v10), (3, 1, v4), (4, 1, (.int .i64 0))]) fun v11 =>
 alW 142 (Value.cells v11).toList H8 fun v12 H13 =>
 Q v12 H13
theorem T23 {x0 x1 : Value} {Q : Value → Heap → Prop} {H : Heap} (h : sh23 x0 x1 Q H) : T PP 23 [x0, x1] H Q :=
  T_of_eq eok foll .n Tryz.func23 (by kernel_rfl) (by kernel_rfl) (by kernel_rfl) h
/-- escutcheon/escutcheonref10.Numbers -/
def sh30 (x0 : Value) (Q : Value → Heap → Prop) (H : Heap) : Prop :=
 ev (lenS x0) fun v2 =>
 ∀ I3 : List Value → Heap → Prop, (∀ H4, ∀ x5, ∀ x6, ∀ x7, ∀ x8, 
 (ev (intV .lss x8 x7) fun v9 =>
 Br v9 (
 ∀ K10 : List Value → Heap → Prop, (∀ H11, ∀ x12, ∀ x13, ∀ x14, ∀ x15, 
 (ev (intV .add x15 (.int .i64 1)) fun v16 =>
 I3 [x12, x13, x14, v16] H11) → K10 [x12, x13, x14, x15] H11) →
 ev (ixS 1 x6 x8) fun v17 =>
 ev (ld1 H4 v17) fun v18 =>
 ∀ I19 : List Value → Heap → Prop, (∀ H20, ∀ x21, ∀ x22, ∀ x23, ∀ x24, ∀ x25, ∀ x26, 
 (∀ K27 : List Value → Heap → Prop, (∀ H28, ∀ x29, ∀ x30, ∀ x31, ∀ x32, ∀ x33, ∀ x34, ∀ x35, 
 (Br x35 (
 ev (intV .add x31 (.int .i64 1)) fun v36 =>
 I19 [x29, x30, v36, x32, x33, x34] H28) (
 ∀ K37 : List Value → Heap → Prop, (∀ H38, ∀ x39, ∀ x40, ∀ x41, ∀ x42, ∀ x43, ∀ x44, ∀ x45, 
 (Br x45 (
 ev (slV 1 x39 none (some x41) (some x41)) fun v46 =>
 ev (slV 1 x39 (some x41) none none) fun v47 =>
 ev (bldL (zRow 1 [(.int .i64 0)]) [(0, 1, x40)]) fun l48 =>
 nsW 3 1 1 l48 H38 fun v49 H50 =>
 appW PP 30 30 v49 v47 H50 fun v51 H52 =>
 appW PP 30 30 v46 v51 H52 fun v53 H54 =>
 K10 [v53, x42, x43, x44] H54) (
 K10 [x39, x42, x43, x44] H38)) → K37 [x39, x40, x41, x42, x43, x44, x45] H38) →
 ev (lenS x29) fun v55 =>
 ev (intV .eql x31 v55) fun v56 =>
 Br v56 (
 K37 [x29, x30, x31, x32, x33, x34, (.bool true)] H28) (
 ev (ixS 1 x29 x31) fun v57 =>
 ev (ld1 H28 v57) fun v58 =>
 ev (intV .neq v58 x30) fun v59 =>
 K37 [x29, x30, x31, x32, x33, x34, v59] H28))) → K27 [x29, x30, x31, x32, x33, x34, x35] H28) →
 ev (lenS x21) fun v60 =>
 ev (intV .lss x23 v60) fun v61 =>
 Br v61 (
 ev (ixS 1 x21 x23) fun v62 =>
 ev (ld1 H20 v62) fun v63 =>
 ev (intV .lss v63 x22) fun v64 =>
 K27 [x21, x22, x23, x24, x25, x26, v64] H20) (
 K27 [x21, x22, x23, x24, x25, x26, (.bool false)] H20)) → I19 [x21, x22, x23, x24, x25, x26] H20) →
 I19 [x5, v18, (.int .i64 0), x6, x7, x8] H4) (
 Q x5 H4)) → I3 [x5, x6, x7, x8] H4) →
 I3 [(.slice none 0 0), x0, v2, (.int .i64 0)] H
theorem T30 {x0 : Value} {Q : Value → Heap → Prop} {H : Heap} (h : sh30 x0 Q H) : T PP 30 [x0] H Q :=
  T_of_eq eok foll (.s .n (.s .n (.s (.s .n (.k (.l [3, 7, 8, 9] (.s .n (.s .n (.j [3, 7, 8, 9] (.k (.s .n (.s .n (.s (.k (.l [3, 5, 6, 7, 8, 9] (.s (.j [3, 5, 6, 7, 8, 9, 24] .n .n) .n))) (.j [3, 5, 6, 7, 8, 9, 38] .n .n))))) .n)))))) .n))) Tryz.func30 (by kernel_rfl) (by kernel_rfl) (by kernel_rfl) h
/-- (*escutcheon/table.Table).Ask -/
def sh73 (x0 x1 x2 x3 x4 : Value) (Q : Value → Heap → Prop) (H : Heap) : Prop :=
 alW 39 (Value.cells x2).toList H fun v6 H7 =>
 ev (ldn 5 H7 v6) fun v8 =>
 T PP 149 [x0, v8] H7 fun v9 H10 =>
 ev (intV .neq v9 (.int .i64 0)) fun v11 =>
 Br v11 (
 Q (.tuple #[(.int .i64 0), v9]) H10) (
 ev (ldn 5 H10 v6) fun v12 =>
 T PP 150 [x0, v12] H10 fun v13 H14 =>
 ev (extrV 0 v13) fun v15 =>
 ev (extrV 1 v13) fun _ =>
 ev (notB false (eqP v15 (.pointer none))) fun v17 =>
 ∀ K18 : List Value → Heap → Prop, (∀ H19, ∀ x20, ∀ x21, ∀ x22, ∀ x23, ∀ x24, ∀ x25, ∀ x26, 
 (T PP 151 [x25, x21, x22, x23] H19 fun v27 H28 =>
 ev (extrV 0 v27) fun v29 =>
 ev (extrV 1 v27) fun v30 =>
 ev (intV .neq v30 (.int .i64 0)) fun v31 =>
 Br v31 (
 Q (.tuple #[(.int .i64 0), v30]) H28) (
 ∀ K32 : List Value → Heap → Prop, (∀ H33, ∀ x34, ∀ x35, ∀ x36, ∀ x37, ∀ x38, ∀ x39, ∀ x40, ∀ x41, ∀ x42, 
 (Br x42 (
 Q (.tuple #[(.int .i64 0), (.int .i64 10)]) H33) (
 ev (nilV x34) fun v43 =>
 ev (fldA 4 v43) fun v44 =>
 ev (ld1 H33 v44) fun v45 =>
 ev (intV .add v45 x41) fun v46 =>
 ev (nilV x34) fun v47 =>
 ev (fldA 4 v47) fun v48 =>
 ev (sto 1 H33 v48 v46) fun H49 =>
 ∀ K50 : List Value → Heap → Prop, (∀ H51, ∀ x52, ∀ x53, ∀ x54, ∀ x55, 
 (T PP 156 [x55, x52, x53, x54] H51 fun v56 H57 =>
 ev (extrV 0 v56) fun v58 =>
 ev (extrV 1 v56) fun v59 =>
 Q (.tuple #[v58, v59]) H57) → K50 [x52, x53, x54, x55] H51) →
 ∀ K60 : List Value → Heap → Prop, (∀ H61, ∀ x62, ∀ x63, ∀ x64, ∀ x65, ∀ x66, ∀ x67, ∀ x68, 
 (Br x68 (
 ev (nilV x62) fun v69 =>
 ev (fldA 0 v69) fun v70 =>
 ev (ld1 H61 v70) fun v71 =>
 ev (ldn 5 H61 x66) fun v72 =>
 ev (bldV [(.int .i64 0), (.int .i64 0), (.int .i64 0), (.int .i64 0), (.int .i64 0), (.pointer none)] [(0, 5, v72), (5, 1, x67)]) fun v73 =>
 T PP 153 [v71, v73] H61 fun v74 H75 =>
 ev (extrV 0 v74) fun v76 =>
 ev (extrV 1 v74) fun v77 =>
 Br v77 (
 ev (nilV x62) fun v78 =>
 ev (fldA 1 v78) fun v79 =>
 ev (ldn 5 H75 x66) fun v80 =>
 ev (ld1 H75 v79) fun v81 =>
 T PP 155 [v80] H75 fun v82 H83 =>
 ev (ld1 H83 v79) fun v84 =>
 v84 = v81 ∧
 T PP 154 [v81, v82, v76] H83 fun _ H86 =>
 K50 [x63, x64, x65, x67] H86) (
 K50 [x63, x64, x65, x67] H75)) (
 K50 [x63, x64, x65, x67] H61)) → K60 [x62, x63, x64, x65, x66, x67, x68] H61) →
 Br x40 (
 ev (intV .gtr x41 (.int .i64 0)) fun v87 =>
 K60 [x34, x35, x36, x37, x38, x39, v87] H49) (
 K60 [x34, x35, x36, x37, x38, x39, (.bool false)] H49))) → K32 [x34, x35, x36, x37, x38, x39, x40, x41, x42] H33) →
 ev (nilV x20) fun v88 =>
 ev (fldA 2 v88) fun v89 =>
 ev (ld1 H28 v89) fun v90 =>
 ev (nilV x20) fun v91 =>
 ev (fldA 4 v91) fun v92 =>
 ev (ld1 H28 v92) fun v93 =>
 ev (intV .sub v90 v93) fun v94 =>
 ev (intV .gtr v29 v94) fun v95 =>
 Br v95 (
 K32 [x20, x21, x22, x23, x24, x25, x26, v29, (.bool true)] H28) (
 Br x26 (
 ev (intV .gtr v29 (.int .i64 0)) fun v96 =>
 Br v96 (
 ev (nilV x20) fun v97 =>
 ev (fldA 0 v97) fun v98 =>
 ev (ld1 H28 v98) fun v99 =>
 T PP 152 [v99] H28 fun v100 H101 =>
 ev (intV .eql v100 (.int .i64 0)) fun v102 =>
 K32 [x20, x21, x22, x23, x24, x25, x26, v29, v102] H101) (
 K32 [x20, x21, x22, x23, x24, x25, x26, v29, (.bool false)] H28)) (
 K32 [x20, x21, x22, x23, x24, x25, x26, v29, (.bool false)] H28)))) → K18 [x20, x21, x22, x23, x24, x25, x26] H19) →
 Br v17 (
 ev (bldV [(.slice none 0 0), (.slice none 0 0)] []) fun v103 =>
 alW 212 (Value.cells v103).toList H14 fun v104 H105 =>
 K18 [x0, x1, x3, x4, v6, v104, v17] H105) (
 K18 [x0, x1, x3, x4, v6, v15, v17] H14))
theorem T73 {x0 x1 x2 x3 x4 : Value} {Q : Value → Heap → Prop} {H : Heap} (h : sh73 x0 x1 x2 x3 x4 Q H) : T PP 73 [x0, x1, x2, x3, x4] H Q :=
  T_of_eq eok foll (.s .n (.s .n (.s .n (.s .n (.j [0, 1, 3, 4, 7, 13, 15] .n (.s .n (.s (.k (.s .n (.c .n (.j [0, 1, 3, 4, 7, 13, 15, 16, 49] .n .n)))) (.s .n (.j [1, 3, 4, 13] (.j [0, 1, 3, 4, 7, 13, 86] .n .n) .n))))))))) Tryz.func73 (by kernel_rfl) (by kernel_rfl) (by kernel_rfl) h
/-- escutcheon/graph.All -/
def sh84 (x0 : Value) (Q : Value → Heap → Prop) (H : Heap) : Prop :=
 alW 35 (Value.cells x0).toList H fun v2 H3 =>
 alW 22 [(.slice none 0 0)] H3 fun v4 H5 =>
 ev (ld1 H5 v2) fun v6 =>
 T PP 141 [v6] H5 fun v7 H8 =>
 rfW PP v7 H8 (fun l9 rc10 as11 H12 R13 => ap1 (fun x14 => alW 39 [(.int .i64 0), (.int .i64 0), (.int .i64 0), (.int .i64 0), (.int .i64 0)] H12 fun v15 H16 =>
 ev (sto 5 H16 v15 x14) fun H17 =>
 H17 l9 = some (lpR rc10) ∧
 (ev (ld1 (upd H17 l9 (lpB rc10)) v2) fun v18 =>
 ev (ldn 5 (upd H17 l9 (lpB rc10)) v15) fun v19 =>
 ev (ld1 (upd H17 l9 (lpB rc10)) v4) fun v20 =>
 T PP 117 [v18, v19] (upd H17 l9 (lpB rc10)) fun v21 H22 =>
 ev (ld1 H22 v4) fun v23 =>
 v23 = v20 ∧
 T PP 118 [v21] H22 fun v24 H25 =>
 ev (ld1 H25 v4) fun v26 =>
 v26 = v20 ∧
 appW PP 22 22 v20 v24 H25 fun v27 H28 =>
 ev (sto 1 H28 v4 v27) fun H29 =>
 H29 l9 = some (lpB rc10) ∧ R13 (.bool true) (upd H29 l9 (lpR rc10)))) as11)
 (fun H30 =>
 ev (ld1 H30 v4) fun v31 =>
 T PP 13 [v31] H30 fun v32 H33 =>
 Q v32 H33)
 (fun H34 =>
 Q (.slice none 0 0) H34) []
theorem T84 {x0 : Value} {Q : Value → Heap → Prop} {H : Heap} (h : sh84 x0 Q H) : T PP 84 [x0] H Q :=
  T_of_eq eok foll (.s .n (.s .n (.s (.s .n (.k (.r [] .n .n))) .n))) Tryz.func84 (by kernel_rfl) (by kernel_rfl) (by kernel_rfl) h
/-- slices.Clone[[]escutcheon/api.Edge,escutcheon/api.Edge] -/
def sh85 (x0 : Value) (Q : Value → Heap → Prop) (H : Heap) : Prop :=
 ev (notB false (eqS x0 (.slice none 0 0))) fun v2 =>
 Br v2 (
 Q (.slice none 0 0) H) (
 ev (bldL (zRow 0 [(.int .i64 0), (.int .i64 0)]) []) fun l3 =>
 nsW 27 0 0 l3 H fun v4 H5 =>
 appW PP 22 22 v4 x0 H5 fun v6 H7 =>
 Q v6 H7)
theorem T85 {x0 : Value} {Q : Value → Heap → Prop} {H : Heap} (h : sh85 x0 Q H) : T PP 85 [x0] H Q :=
  T_of_eq eok foll .n Tryz.func85 (by kernel_rfl) (by kernel_rfl) (by kernel_rfl) h
/-- slices.SortFunc[[]escutcheon/api.Edge,escutcheon/api.Edge] -/
def sh86 (x0 x1 : Value) (Q : Value → Heap → Prop) (H : Heap) : Prop :=
 ev (lenS x0) fun v3 =>
 ev (convV .u64 v3) fun v4 =>
 T PP 183 [v4] H fun v5 H6 =>
 T PP 182 [x0, (.int .i64 0), v3, v5, x1] H6 fun _ H8 =>
 Q (.tuple #[]) H8
theorem T86 {x0 x1 : Value} {Q : Value → Heap → Prop} {H : Heap} (h : sh86 x0 x1 Q H) : T PP 86 [x0, x1] H Q :=
  T_of_eq eok foll .n Tryz.func86 (by kernel_rfl) (by kernel_rfl) (by kernel_rfl) h
/-- escutcheon/graph.Sort$1 -/
def sh87 (x0 x1 : Value) (Q : Value → Heap → Prop) (H : Heap) : Prop :=
 alW 27 (Value.cells x0).toList H fun v3 H4 =>
 alW 27 (Value.cells x1).toList H4 fun v5 H6 =>
 ev (ldn 2 H6 v3) fun v7 =>
 ev (ldn 2 H6 v5) fun v8 =>
 T PP 14 [v7, v8] H6 fun v9 H10 =>
 Br v9 (
 Q (.int .i64 (-1)) H10) (
 ev (ldn 2 H10 v3) fun v11 =>
 ev (ldn 2 H10 v5) fun v12 =>
 ev (notB false (eqA [(.int .i64 0), (.int .i64 0)] v11 v12)) fun v13 =>
 Br v13 (
 Q (.int .i64 0) H10) (
 Q (.int .i64 1) H10))
theorem T87 {x0 x1 : Value} {Q : Value → Heap → Prop} {H : Heap} (h : sh87 x0 x1 Q H) : T PP 87 [x0, x1] H Q :=
  T_of_eq eok foll .n Tryz.func87 (by kernel_rfl) (by kernel_rfl) (by kernel_rfl) h
/-- slices.Compact[[]escutcheon/api.Edge,escutcheon/api.Edge] -/
def sh88 (x0 : Value) (Q : Value → Heap → Prop) (H : Heap) : Prop :=
 ev (lenS x0) fun v2 =>
 ev (intV .lss v2 (.int .i64 2)) fun v3 =>
 Br v3 (
 Q x0 H) (
 ∀ I4 : List Value → Heap → Prop, (∀ H5, ∀ x6, ∀ x7, 
 (ev (lenS x6) fun v8 =>
 ev (intV .lss x7 v8) fun v9 =>
 Br v9 (
 ev (ixS 2 x6 x7) fun v10 =>
 ev (ldn 2 H5 v10) fun v11 =>
 ev (intV .sub x7 (.int .i64 1)) fun v12 =>
 ev (ixS 2 x6 v12) fun v13 =>
 ev (ldn 2 H5 v13) fun v14 =>
 ev (notB false (eqA [(.int .i64 0), (.int .i64 0)] v11 v14)) fun v15 =>
 Br v15 (
 ev (slV 2 x6 (some x7) none none) fun v16 =>
 ∀ I17 : List Value → Heap → Prop, (∀ H18, ∀ x19, ∀ x20, ∀ x21, ∀ x22, 
 (ev (lenS x21) fun v23 =>
 ev (intV .lss x22 v23) fun v24 =>
 Br v24 (
 ∀ K25 : List Value → Heap → Prop, (∀ H26, ∀ x27, ∀ x28, ∀ x29, ∀ x30, 
 (ev (intV .add x30 (.int .i64 1)) fun v31 =>
 I17 [x27, x28, x29, v31] H26) → K25 [x27, x28, x29, x30] H26) →
 ev (ixS 2 x21 x22) fun v32 =>
 ev (ldn 2 H18 v32) fun v33 =>
 ev (intV .sub x22 (.int .i64 1)) fun v34 =>
 ev (ixS 2 x21 v34) fun v35 =>
 ev (ldn 2 H18 v35) fun v36 =>
 ev (notB true (eqA [(.int .i64 0), (.int .i64 0)] v33 v36)) fun v37 =>
 Br v37 (
 ev (ixS 2 x21 x22) fun v38 =>
 ev (ldn 2 H18 v38) fun v39 =>
 ev (ixS 2 x19 x20) fun v40 =>
 ev (sto 2 H18 v40 v39) fun H41 =>
 ev (intV .add x20 (.int .i64 1)) fun v42 =>
 K25 [x19, v42, x21, x22] H41) (
 K25 [x19, x20, x21, x22] H18)) (
 ev (slV 2 x19 (some x20) none none) fun v43 =>
 clrW PP 22 v43 H18 fun _ H45 =>
 ev (slV 2 x19 none (some x20) none) fun v46 =>
 Q v46 H45)) → I17 [x19, x20, x21, x22] H18) →
 I17 [x6, x7, v16, (.int .i64 1)] H5) (
 ev (intV .add x7 (.int .i64 1)) fun v47 =>
 I4 [x6, v47] H5)) (
 Q x6 H5)) → I4 [x6, x7] H5) →
 I4 [x0, (.int .i64 1)] H)
theorem T88 {x0 : Value} {Q : Value → Heap → Prop} {H : Heap} (h : sh88 x0 Q H) : T PP 88 [x0] H Q :=
  T_of_eq eok foll (.s .n (.s .n (.s (.s .n (.k (.l [0, 3] (.s .n (.s (.k (.s .n (.c (.s .n (.s (.s .n (.k (.l [0, 3, 4, 5] (.s .n (.j [0, 3, 4, 5] .n .n))))) .n)) .n))) .n))))) .n))) Tryz.func88 (by kernel_rfl) (by kernel_rfl) (by kernel_rfl) h
/-- slices.Sort[[]int,int] -/
def sh89 (x0 : Value) (Q : Value → Heap → Prop) (H : Heap) : Prop :=
 ev (lenS x0) fun v2 =>
 ev (convV .u64 v2) fun v3 =>
 T PP 183 [v3] H fun v4 H5 =>
 T PP 184 [x0, (.int .i64 0), v2, v4] H5 fun _ H7 =>
 Q (.tuple #[]) H7
theorem T89 {x0 : Value} {Q : Value → Heap → Prop} {H : Heap} (h : sh89 x0 Q H) : T PP 89 [x0] H Q :=
  T_of_eq eok foll .n Tryz.func89 (by kernel_rfl) (by kernel_rfl) (by kernel_rfl) h
/-- slices.Compact[[]int,int] -/
def sh90 (x0 : Value) (Q : Value → Heap → Prop) (H : Heap) : Prop :=
 ev (lenS x0) fun v2 =>
 ev (intV .lss v2 (.int .i64 2)) fun v3 =>
 Br v3 (
 Q x0 H) (
 ∀ I4 : List Value → Heap → Prop, (∀ H5, ∀ x6, ∀ x7, 
 (ev (lenS x6) fun v8 =>
 ev (intV .lss x7 v8) fun v9 =>
 Br v9 (
 ev (ixS 1 x6 x7) fun v10 =>
 ev (ld1 H5 v10) fun v11 =>
 ev (intV .sub x7 (.int .i64 1)) fun v12 =>
 ev (ixS 1 x6 v12) fun v13 =>
 ev (ld1 H5 v13) fun v14 =>
 ev (intV .eql v11 v14) fun v15 =>
 Br v15 (
 ev (slV 1 x6 (some x7) none none) fun v16 =>
 ∀ I17 : List Value → Heap → Prop, (∀ H18, ∀ x19, ∀ x20, ∀ x21, ∀ x22, 
 (ev (lenS x21) fun v23 =>
 ev (intV .lss x22 v23) fun v24 =>
 Br v24 (
 ∀ K25 : List Value → Heap → Prop, (∀ H26, ∀ x27, ∀ x28, ∀ x29, ∀ x30, 
 (ev (intV .add x30 (.int .i64 1)) fun v31 =>
 I17 [x27, x28, x29, v31] H26) → K25 [x27, x28, x29, x30] H26) →
 ev (ixS 1 x21 x22) fun v32 =>
 ev (ld1 H18 v32) fun v33 =>
 ev (intV .sub x22 (.int .i64 1)) fun v34 =>
 ev (ixS 1 x21 v34) fun v35 =>
 ev (ld1 H18 v35) fun v36 =>
 ev (intV .neq v33 v36) fun v37 =>
 Br v37 (
 ev (ixS 1 x21 x22) fun v38 =>
 ev (ld1 H18 v38) fun v39 =>
 ev (ixS 1 x19 x20) fun v40 =>
 ev (sto 1 H18 v40 v39) fun H41 =>
 ev (intV .add x20 (.int .i64 1)) fun v42 =>
 K25 [x19, v42, x21, x22] H41) (
 K25 [x19, x20, x21, x22] H18)) (
 ev (slV 1 x19 (some x20) none none) fun v43 =>
 clrW PP 30 v43 H18 fun _ H45 =>
 ev (slV 1 x19 none (some x20) none) fun v46 =>
 Q v46 H45)) → I17 [x19, x20, x21, x22] H18) →
 I17 [x6, x7, v16, (.int .i64 1)] H5) (
 ev (intV .add x7 (.int .i64 1)) fun v47 =>
 I4 [x6, v47] H5)) (
 Q x6 H5)) → I4 [x6, x7] H5) →
 I4 [x0, (.int .i64 1)] H)
theorem T90 {x0 : Value} {Q : Value → Heap → Prop} {H : Heap} (h : sh90 x0 Q H) : T PP 90 [x0] H Q :=
  T_of_eq eok foll (.s .n (.s .n (.s (.s .n (.k (.l [0, 3] (.s .n (.s (.k (.s .n (.c (.s .n (.s (.s .n (.k (.l [0, 3, 4, 5] (.s .n (.j [0, 3, 4, 5] .n .n))))) .n)) .n))) .n))))) .n))) Tryz.func90 (by kernel_rfl) (by kernel_rfl) (by kernel_rfl) h
/-- escutcheon/arena.New[escutcheon/table.head] -/
def sh92 (x0 : Value) (Q : Value → Heap → Prop) (H : Heap) : Prop :=
 ev (maxV x0 (.int .i64 0)) fun v2 =>
 ev (minV v2 (.int .i64 4096)) fun v3 =>
 mkW 248 64 [(.int .i64 0), (.int .i64 0), (.int .i64 0), (.int .i64 0), (.int .i64 0), (.pointer none), (.bool false), (.int .i64 0)] v3 v3 H fun v4 H5 =>
 ev (bldV [(.slice none 0 0), (.int .i64 0), (.int .i64 0)] [(0, 1, v4)]) fun v6 =>
 alW 246 (Value.cells v6).toList H5 fun v7 H8 =>
 ev (nilV v7) fun v9 =>
 ev (fldA 0 v9) fun v10 =>
 ev (ld1 H8 v10) fun v11 =>
 ev (lenS v11) fun v12 =>
 ∀ I13 : List Value → Heap → Prop, (∀ H14, ∀ x15, ∀ x16, ∀ x17, 
 (ev (intV .lss x17 x16) fun v18 =>
 Br v18 (
 ev (nilV x15) fun v19 =>
 ev (fldA 0 v19) fun v20 =>
 ev (ld1 H14 v20) fun v21 =>
 ev (intV .add x17 (.int .i64 1)) fun v22 =>
 ev (ixS 8 v21 x17) fun v23 =>
 ev (fldA 7 v23) fun v24 =>
 ev (sto 1 H14 v24 v22) fun H25 =>
 ev (intV .add x17 (.int .i64 1)) fun v26 =>
 I13 [x15, x16, v26] H25) (
 Q x15 H14)) → I13 [x15, x16, x17] H14) →
 I13 [v7, v12, (.int .i64 0)] H8
theorem T92 {x0 : Value} {Q : Value → Heap → Prop} {H : Heap} (h : sh92 x0 Q H) : T PP 92 [x0] H Q :=
  T_of_eq eok foll (.s .n (.s .n (.s (.s .n (.k (.l [3, 15, 16] .n))) .n))) Tryz.func92 (by kernel_rfl) (by kernel_rfl) (by kernel_rfl) h
/-- escutcheon/bucket.New -/
def sh93 (Q : Value → Heap → Prop) (H : Heap) : Prop :=
 mkW 315 24 [(.slice none 0 0)] (.int .i64 4) (.int .i64 4) H fun v1 H2 =>
 ev (bldV [(.slice none 0 0), (.int .i64 0)] [(0, 1, v1)]) fun v3 =>
 alW 251 (Value.cells v3).toList H2 fun v4 H5 =>
 Q v4 H5
theorem T93 {Q : Value → Heap → Prop} {H : Heap} (h : sh93 Q H) : T PP 93 [] H Q :=
  T_of_eq eok foll .n Tryz.func93 (by kernel_rfl) (by kernel_rfl) (by kernel_rfl) h
/-- (*escutcheon/table.Table).all -/
def sh98 (x0 : Value) (Q : Value → Heap → Prop) (H : Heap) : Prop :=
 alW 147 [(.slice none 0 0)] H fun v2 H3 =>
 T PP 185 [x0] H3 fun v4 H5 =>
 ev (unV .not v4) fun v6 =>
 Br v6 (
 ev (ld1 H5 v2) fun v7 =>
 Q v7 H5) (
 ev (nilV x0) fun v8 =>
 ev (fldA 0 v8) fun v9 =>
 ev (ld1 H5 v9) fun v10 =>
 T PP 193 [v10] H5 fun v11 H12 =>
 rfW PP v11 H12 (fun l13 rc14 as15 H16 R17 => ap2 (fun _ x19 => alW 138 [(.int .i64 0), (.int .i64 0), (.int .i64 0), (.int .i64 0), (.int .i64 0), (.pointer none)] H16 fun v20 H21 =>
 ev (sto 6 H21 v20 x19) fun H22 =>
 H22 l13 = some (lpR rc14) ∧
 (ev (ld1 (upd H22 l13 (lpB rc14)) v2) fun v23 =>
 ev (ldn 6 (upd H22 l13 (lpB rc14)) v20) fun v24 =>
 ev (bldL (zRow 1 [(.int .i64 0), (.int .i64 0), (.int .i64 0), (.int .i64 0), (.int .i64 0), (.pointer none)]) [(0, 6, v24)]) fun l25 =>
 nsW 138 1 1 l25 (upd H22 l13 (lpB rc14)) fun v26 H27 =>
 appW PP 147 147 v23 v26 H27 fun v28 H29 =>
 ev (sto 1 H29 v2 v28) fun H30 =>
 H30 l13 = some (lpB rc14) ∧ R17 (.bool true) (upd H30 l13 (lpR rc14)))) as15)
 (fun H31 =>
 ev (ld1 H31 v2) fun v32 =>
 T PP 194 [v32, (.func (.func 195) #[] #[])] H31 fun _ H34 =>
 ev (ld1 H34 v2) fun v35 =>
 Q v35 H34)
 (fun H36 =>
 Q (.slice none 0 0) H36) [])
theorem T98 {x0 : Value} {Q : Value → Heap → Prop} {H : Heap} (h : sh98 x0 Q H) : T PP 98 [x0] H Q :=
  T_of_eq eok foll (.s .n (.s .n (.s .n (.s (.s .n (.k (.r [] .n .n))) .n)))) Tryz.func98 (by kernel_rfl) (by kernel_rfl) (by kernel_rfl) h
/-- (*escutcheon/queue.Queue).Waits -/
def sh99 (x0 : Value) (Q : Value → Heap → Prop) (H : Heap) : Prop :=
 ev (notB false (eqP x0 (.pointer none))) fun v2 =>
 Br v2 (
 Q (.slice none 0 0) H) (
 ev (nilV x0) fun v3 =>
 ev (fldA 1 v3) fun v4 =>
 ev (ld1 H v4) fun v5 =>
 T PP 197 [v5] H fun v6 H7 =>
 Q v6 H7)
theorem T99 {x0 : Value} {Q : Value → Heap → Prop} {H : Heap} (h : sh99 x0 Q H) : T PP 99 [x0] H Q :=
  T_of_eq eok foll .n Tryz.func99 (by kernel_rfl) (by kernel_rfl) (by kernel_rfl) h
/-- escutcheon/request.Find -/
def sh100 (x0 x1 : Value) (Q : Value → Heap → Prop) (H : Heap) : Prop :=
 T PP 199 [x1] H fun v3 H4 =>
 T PP 198 [x0, v3] H4 fun v5 H6 =>
 Q v5 H6
theorem T100 {x0 x1 : Value} {Q : Value → Heap → Prop} {H : Heap} (h : sh100 x0 x1 Q H) : T PP 100 [x0, x1] H Q :=
  T_of_eq eok foll .n Tryz.func100 (by kernel_rfl) (by kernel_rfl) (by kernel_rfl) h
/-- (*escutcheon/queue.Queue).Mode -/
def sh102 (x0 x1 : Value) (Q : Value → Heap → Prop) (H : Heap) : Prop :=
 T PP 144 [x0] H fun v3 H4 =>
 T PP 203 [v3, x1] H4 fun v5 H6 =>
 Q v5 H6
theorem T102 {x0 x1 : Value} {Q : Value → Heap → Prop} {H : Heap} (h : sh102 x0 x1 Q H) : T PP 102 [x0, x1] H Q :=
  T_of_eq eok foll .n Tryz.func102 (by kernel_rfl) (by kernel_rfl) (by kernel_rfl) h
/-- (*escutcheon/table.Table).Queue -/
def sh117 (x0 x1 : Value) (Q : Value → Heap → Prop) (H : Heap) : Prop :=
 alW 39 (Value.cells x1).toList H fun v3 H4 =>
 ev (ldn 5 H4 v3) fun v5 =>
 T PP 150 [x0, v5] H4 fun v6 H7 =>
 ev (extrV 0 v6) fun v8 =>
 ev (extrV 1 v6) fun _ =>
 T PP 157 [v8] H7 fun v10 H11 =>
 Q v10 H11
theorem T117 {x0 x1 : Value} {Q : Value → Heap → Prop} {H : Heap} (h : sh117 x0 x1 Q H) : T PP 117 [x0, x1] H Q :=
  T_of_eq eok foll .n Tryz.func117 (by kernel_rfl) (by kernel_rfl) (by kernel_rfl) h
/-- escutcheon/graph.Of -/
def sh118 (x0 : Value) (Q : Value → Heap → Prop) (H : Heap) : Prop :=
 T PP 99 [x0] H fun v2 H3 =>
 ev (lenS v2) fun v4 =>
 ∀ I5 : List Value → Heap → Prop, (∀ H6, ∀ x7, ∀ x8, ∀ x9, ∀ x10, ∀ x11, ∀ x12, 
 (ev (intV .lss x12 x11) fun v13 =>
 Br v13 (
 ev (ixS 4 x10 x12) fun v14 =>
 ev (ldn 4 H6 v14) fun v15 =>
 alW 48 [(.int .i64 0), (.int .i64 0), (.bool false), (.bool false)] H6 fun v16 H17 =>
 ev (sto 4 H17 v16 v15) fun H18 =>
 T PP 144 [x7] H18 fun v19 H20 =>
 ev (lenS v19) fun v21 =>
 ∀ I22 : List Value → Heap → Prop, (∀ H23, ∀ x24, ∀ x25, ∀ x26, ∀ x27, ∀ x28, ∀ x29, ∀ x30, ∀ x31, ∀ x32, ∀ x33, ∀ x34, 
 (ev (intV .lss x34 x33) fun v35 =>
 Br v35 (
 ∀ K36 : List Value → Heap → Prop, (∀ H37, ∀ x38, ∀ x39, ∀ x40, ∀ x41, ∀ x42, ∀ x43, ∀ x44, ∀ x45, ∀ x46, ∀ x47, ∀ x48, 
 (ev (intV .add x48 (.int .i64 1)) fun v49 =>
 I22 [x38, x39, x40, x41, x42, x43, x44, x45, x46, x47, v49] H37) → K36 [x38, x39, x40, x41, x42, x43, x44, x45, x46, x47, x48] H37) →
 ev (ixS 2 x32 x34) fun v50 =>
 ev (ldn 2 H23 v50) fun v51 =>
 alW 121 [(.int .i64 0), (.int .i64 0)] H23 fun v52 H53 =>
 ev (sto 2 H53 v52 v51) fun H54 =>
 ∀ K55 : List Value → Heap → Prop, (∀ H56, ∀ x57, ∀ x58, ∀ x59, ∀ x60, ∀ x61, ∀ x62, ∀ x63, ∀ x64, ∀ x65, ∀ x66, ∀ x67, ∀ x68, ∀ x69, 
 (Br x69 (
 ev (fldA 0 x61) fun v70 =>
 ev (ld1 H56 v70) fun v71 =>
 ev (fldA 0 x62) fun v72 =>
 ev (ld1 H56 v72) fun v73 =>
 ev (bldV [(.int .i64 0), (.int .i64 0)] [(0, 1, v71), (1, 1, v73)]) fun v74 =>
 ev (bldL (zRow 1 [(.int .i64 0), (.int .i64 0)]) [(0, 2, v74)]) fun l75 =>
 nsW 27 1 1 l75 H56 fun v76 H77 =>
 appW PP 22 22 x58 v76 H77 fun v78 H79 =>
 K36 [x57, v78, x59, x60, x61, x63, x64, x65, x66, x67, x68] H79) (
 K36 [x57, x58, x59, x60, x61, x63, x64, x65, x66, x67, x68] H56)) → K55 [x57, x58, x59, x60, x61, x62, x63, x64, x65, x66, x67, x68, x69] H56) →
 ev (fldA 0 v52) fun v80 =>
 ev (ld1 H54 v80) fun v81 =>
 ev (fldA 0 x28) fun v82 =>
 ev (ld1 H54 v82) fun v83 =>
 ev (intV .neq v81 v83) fun v84 =>
 Br v84 (
 ev (fldA 1 v52) fun v85 =>
 ev (ld1 H54 v85) fun v86 =>
 ev (fldA 1 x28) fun v87 =>
 ev (ld1 H54 v87) fun v88 =>
 T PP 228 [v86, v88] H54 fun v89 H90 =>
 ev (unV .not v89) fun v91 =>
 K55 [x24, x25, x26, x27, x28, v52, x29, x30, x31, x32, x33, x34, v91] H90) (
 K55 [x24, x25, x26, x27, x28, v52, x29, x30, x31, x32, x33, x34, (.bool false)] H54)) (
 ev (slV 4 x26 none (some x27) none) fun v92 =>
 ev (lenS v92) fun v93 =>
 ∀ I94 : List Value → Heap → Prop, (∀ H95, ∀ x96, ∀ x97, ∀ x98, ∀ x99, ∀ x100, ∀ x101, ∀ x102, ∀ x103, ∀ x104, ∀ x105, 
 (ev (intV .lss x105 x104) fun v106 =>
 Br v106 (
 ∀ K107 : List Value → Heap → Prop, (∀ H108, ∀ x109, ∀ x110, ∀ x111, ∀ x112, ∀ x113, ∀ x114, ∀ x115, ∀ x116, ∀ x117, ∀ x118, 
 (ev (intV .add x118 (.int .i64 1)) fun v119 =>
 I94 [x109, x110, x111, x112, x113, x114, x115, x116, x117, v119] H108) → K107 [x109, x110, x111, x112, x113, x114, x115, x116, x117, x118] H108) →
 ev (ixS 4 x103 x105) fun v120 =>
 ev (ldn 4 H95 v120) fun v121 =>
 alW 48 [(.int .i64 0), (.int .i64 0), (.bool false), (.bool false)] H95 fun v122 H123 =>
 ev (sto 4 H123 v122 v121) fun H124 =>
 ev (fldA 0 v122) fun v125 =>
 ev (ld1 H124 v125) fun v126 =>
 ev (fldA 0 x99) fun v127 =>
 ev (ld1 H124 v127) fun v128 =>
 ev (intV .neq v126 v128) fun v129 =>
 Br v129 (
 ev (fldA 0 x99) fun v130 =>
 ev (ld1 H124 v130) fun v131 =>
 ev (fldA 0 v122) fun v132 =>
 ev (ld1 H124 v132) fun v133 =>
 ev (bldV [(.int .i64 0), (.int .i64 0)] [(0, 1, v131), (1, 1, v133)]) fun v134 =>
 ev (bldL (zRow 1 [(.int .i64 0), (.int .i64 0)]) [(0, 2, v134)]) fun l135 =>
 nsW 27 1 1 l135 H124 fun v136 H137 =>
 appW PP 22 22 x97 v136 H137 fun v138 H139 =>
 K107 [x96, v138, x98, x99, x100, x101, x102, x103, x104, x105] H139) (
 K107 [x96, x97, x98, x99, x100, x101, x102, x103, x104, x105] H124)) (
 ev (intV .add x102 (.int .i64 1)) fun v140 =>
 I5 [x96, x97, x98, x100, x101, v140] H95)) → I94 [x96, x97, x98, x99, x100, x101, x102, x103, x104, x105] H95) →
 I94 [x24, x25, x26, x28, x29, x30, x31, v92, v93, (.int .i64 0)] H23)) → I22 [x24, x25, x26, x27, x28, x29, x30, x31, x32, x33, x34] H23) →
 I22 [x7, x8, x9, x12, v16, x10, x11, x12, v19, v21, (.int .i64 0)] H20) (
 T PP 13 [x8] H6 fun v141 H142 =>
 Q v141 H142)) → I5 [x7, x8, x9, x10, x11, x12] H6) →
 I5 [x0, (.slice none 0 0), v2, v2, v4, (.int .i64 0)] H3
theorem T118 {x0 : Value} {Q : Value → Heap → Prop} {H : Heap} (h : sh118 x0 Q H) : T PP 118 [x0] H Q :=
  T_of_eq eok foll (.s .n (.s .n (.s .n (.s (.s .n (.k (.l [0, 3, 4, 13, 14, 15] (.s .n (.s .n (.s (.k (.s .n (.s (.s .n (.k (.l [0, 3, 4, 5, 6, 13, 14, 15, 21, 22, 23] (.s .n (.s .n (.j [0, 3, 4, 5, 6, 13, 14, 15, 21, 22, 23] (.k (.s .n (.j [0, 3, 4, 5, 6, 8, 13, 14, 15, 21, 22, 23, 39] .n .n))) .n)))))) (.s .n (.k (.l [0, 3, 4, 6, 13, 14, 15, 51, 52, 53] (.s .n (.s .n (.j [0, 3, 4, 6, 13, 14, 15, 51, 52, 53] .n .n))))))))) .n)))))) .n)))) Tryz.func118 (by kernel_rfl) (by kernel_rfl) (by kernel_rfl) h
/-- (*escutcheon/table.Table).Paths -/
def sh141 (x0 : Value) (Q : Value → Heap → Prop) (H : Heap) : Prop :=
 alW 35 (Value.cells x0).toList H fun v2 H3 =>
 Q (.func (.func 254) #[] #[v2]) H3
theorem T141 {x0 : Value} {Q : Value → Heap → Prop} {H : Heap} (h : sh141 x0 Q H) : T PP 141 [x0] H Q :=
  T_of_eq eok foll .n Tryz.func141 (by kernel_rfl) (by kernel_rfl) (by kernel_rfl) h
/-- (*escutcheon/queue.Queue).Holds -/
def sh144 (x0 : Value) (Q : Value → Heap → Prop) (H : Heap) : Prop :=
 ev (notB false (eqP x0 (.pointer none))) fun v2 =>
 Br v2 (
 Q (.slice none 0 0) H) (
 ev (nilV x0) fun v3 =>
 ev (fldA 0 v3) fun v4 =>
 ev (ld1 H v4) fun v5 =>
 T PP 255 [v5] H fun v6 H7 =>
 Q v6 H7)
theorem T144 {x0 : Value} {Q : Value → Heap → Prop} {H : Heap} (h : sh144 x0 Q H) : T PP 144 [x0] H Q :=
  T_of_eq eok foll .n Tryz.func144 (by kernel_rfl) (by kernel_rfl) (by kernel_rfl) h
/-- (*escutcheon/table.Table).may -/
def sh149 (x0 x1 : Value) (Q : Value → Heap → Prop) (H : Heap) : Prop :=
 alW 39 (Value.cells x1).toList H fun v3 H4 =>
 T PP 185 [x0] H4 fun v5 H6 =>
 ev (unV .not v5) fun v7 =>
 Br v7 (
 Q (.int .i64 70) H6) (
 ev (ldn 5 H6 v3) fun v8 =>
 T PP 210 [v8] H6 fun v9 H10 =>
 ev (unV .not v9) fun v11 =>
 Br v11 (
 Q (.int .i64 1) H10) (
 Q (.int .i64 0) H10))
theorem T149 {x0 x1 : Value} {Q : Value → Heap → Prop} {H : Heap} (h : sh149 x0 x1 Q H) : T PP 149 [x0, x1] H Q :=
  T_of_eq eok foll .n Tryz.func149 (by kernel_rfl) (by kernel_rfl) (by kernel_rfl) h
/-- (*escutcheon/table.Table).at -/
def sh150 (x0 x1 : Value) (Q : Value → Heap → Prop) (H : Heap) : Prop :=
 alW 39 (Value.cells x1).toList H fun v3 H4 =>
 ∀ K5 : List Value → Heap → Prop, (∀ H6, ∀ x7, ∀ x8, ∀ x9, 
 (Br x9 (
 Q (.tuple #[(.pointer none), (.int .i64 0)]) H6) (
 ev (nilV x7) fun v10 =>
 ev (fldA 1 v10) fun v11 =>
 ev (ldn 5 H6 x8) fun v12 =>
 ev (ld1 H6 v11) fun v13 =>
 T PP 155 [v12] H6 fun v14 H15 =>
 ev (ld1 H15 v11) fun v16 =>
 v16 = v13 ∧
 T PP 256 [v13, v14] H15 fun v17 H18 =>
 ev (extrV 0 v17) fun v19 =>
 ev (extrV 1 v17) fun v20 =>
 ev (unV .not v20) fun v21 =>
 Br v21 (
 Q (.tuple #[(.pointer none), (.int .i64 0)]) H18) (
 ev (nilV x7) fun v22 =>
 ev (fldA 0 v22) fun v23 =>
 ev (ld1 H18 v23) fun v24 =>
 T PP 257 [v24, v19] H18 fun v25 H26 =>
 ev (extrV 0 v25) fun v27 =>
 ev (extrV 1 v25) fun _ =>
 alW 138 [(.int .i64 0), (.int .i64 0), (.int .i64 0), (.int .i64 0), (.int .i64 0), (.pointer none)] H26 fun v29 H30 =>
 ev (sto 6 H30 v29 v27) fun H31 =>
 ev (fldA 5 v29) fun v32 =>
 ev (ld1 H31 v32) fun v33 =>
 Q (.tuple #[v33, v19]) H31))) → K5 [x7, x8, x9] H6) →
 T PP 185 [x0] H4 fun v34 H35 =>
 ev (unV .not v34) fun v36 =>
 Br v36 (
 K5 [x0, v3, (.bool true)] H35) (
 ev (ldn 5 H35 v3) fun v37 =>
 T PP 210 [v37] H35 fun v38 H39 =>
 ev (unV .not v38) fun v40 =>
 K5 [x0, v3, v40] H39)
theorem T150 {x0 x1 : Value} {Q : Value → Heap → Prop} {H : Heap} (h : sh150 x0 x1 Q H) : T PP 150 [x0, x1] H Q :=
  T_of_eq eok foll (.s .n (.s (.j [0, 3, 17] .n .n) .n)) Tryz.func150 (by kernel_rfl) (by kernel_rfl) (by kernel_rfl) h
/-- (*escutcheon/queue.Queue).Cost -/
def sh151 (x0 x1 x2 x3 : Value) (Q : Value → Heap → Prop) (H : Heap) : Prop :=
 T PP 157 [x0] H fun v5 H6 =>
 T PP 156 [v5, x1, x2, x3] H6 fun v7 H8 =>
 ev (extrV 0 v7) fun _ =>
 ev (extrV 1 v7) fun v10 =>
 ev (intV .neq v10 (.int .i64 0)) fun v11 =>
 Br v11 (
 Q (.tuple #[(.int .i64 0), v10]) H8) (
 T PP 258 [v5] H8 fun v12 H13 =>
 T PP 258 [x0] H13 fun v14 H15 =>
 ev (intV .sub v12 v14) fun v16 =>
 Q (.tuple #[v16, (.int .i64 0)]) H15)
theorem T151 {x0 x1 x2 x3 : Value} {Q : Value → Heap → Prop} {H : Heap} (h : sh151 x0 x1 x2 x3 Q H) : T PP 151 [x0, x1, x2, x3] H Q :=
  T_of_eq eok foll .n Tryz.func151 (by kernel_rfl) (by kernel_rfl) (by kernel_rfl) h
/-- (*escutcheon/arena.Arena[escutcheon/table.head]).Left -/
def sh152 (x0 : Value) (Q : Value → Heap → Prop) (H : Heap) : Prop :=
 ev (notB false (eqP x0 (.pointer none))) fun v2 =>
 Br v2 (
 Q (.int .i64 0) H) (
 ev (nilV x0) fun v3 =>
 ev (fldA 0 v3) fun v4 =>
 ev (ld1 H v4) fun v5 =>
 ev (lenS v5) fun v6 =>
 ev (nilV x0) fun v7 =>
 ev (fldA 2 v7) fun v8 =>
 ev (ld1 H v8) fun v9 =>
 ev (intV .sub v6 v9) fun v10 =>
 Q v10 H)
theorem T152 {x0 : Value} {Q : Value → Heap → Prop} {H : Heap} (h : sh152 x0 Q H) : T PP 152 [x0] H Q :=
  T_of_eq eok foll .n Tryz.func152 (by kernel_rfl) (by kernel_rfl) (by kernel_rfl) h
/-- (*escutcheon/arena.Arena[escutcheon/table.head]).Take -/
def sh153 (x0 x1 : Value) (Q : Value → Heap → Prop) (H : Heap) : Prop :=
 alW 138 (Value.cells x1).toList H fun v3 H4 =>
 T PP 152 [x0] H4 fun v5 H6 =>
 ev (intV .eql v5 (.int .i64 0)) fun v7 =>
 Br v7 (
 Q (.tuple #[(.int .i64 0), (.bool false)]) H6) (
 ev (nilV x0) fun v8 =>
 ev (fldA 1 v8) fun v9 =>
 ev (ld1 H6 v9) fun v10 =>
 ev (nilV x0) fun v11 =>
 ev (fldA 0 v11) fun v12 =>
 ev (ld1 H6 v12) fun v13 =>
 ev (ixS 8 v13 v10) fun v14 =>
 ev (fldA 7 v14) fun v15 =>
 ev (ld1 H6 v15) fun v16 =>
 ev (nilV x0) fun v17 =>
 ev (fldA 1 v17) fun v18 =>
 ev (sto 1 H6 v18 v16) fun H19 =>
 ev (nilV x0) fun v20 =>
 ev (fldA 0 v20) fun v21 =>
 ev (ld1 H19 v21) fun v22 =>
 ev (ldn 6 H19 v3) fun v23 =>
 ev (bldV [(.int .i64 0), (.int .i64 0), (.int .i64 0), (.int .i64 0), (.int .i64 0), (.pointer none), (.bool false), (.int .i64 0)] [(0, 6, v23), (6, 1, (.bool true))]) fun v24 =>
 ev (ixS 8 v22 v10) fun v25 =>
 ev (sto 8 H19 v25 v24) fun H26 =>
 ev (nilV x0) fun v27 =>
 ev (fldA 2 v27) fun v28 =>
 ev (ld1 H26 v28) fun v29 =>
 ev (intV .add v29 (.int .i64 1)) fun v30 =>
 ev (nilV x0) fun v31 =>
 ev (fldA 2 v31) fun v32 =>
 ev (sto 1 H26 v32 v30) fun H33 =>
 Q (.tuple #[v10, (.bool true)]) H33)
theorem T153 {x0 x1 : Value} {Q : Value → Heap → Prop} {H : Heap} (h : sh153 x0 x1 Q H) : T PP 153 [x0, x1] H Q :=
  T_of_eq eok foll .n Tryz.func153 (by kernel_rfl) (by kernel_rfl) (by kernel_rfl) h
/-- (*escutcheon/bucket.Map).Put -/
def sh154 (x0 x1 x2 : Value) (Q : Value → Heap → Prop) (H : Heap) : Prop :=
 T PP 259 [x0] H fun v4 H5 =>
 ev (unV .not v4) fun v6 =>
 Br v6 (
 Q (.bool false) H5) (
 T PP 260 [x0, x1] H5 fun v7 H8 =>
 ev (extrV 0 v7) fun v9 =>
 ev (extrV 1 v7) fun v10 =>
 ev (intV .geq v10 (.int .i64 0)) fun v11 =>
 Br v11 (
 ev (nilV x0) fun v12 =>
 ev (fldA 0 v12) fun v13 =>
 ev (ld1 H8 v13) fun v14 =>
 ev (ixS 1 v14 v9) fun v15 =>
 ev (ld1 H8 v15) fun v16 =>
 ev (ixS 2 v16 v10) fun v17 =>
 ev (fldA 1 v17) fun v18 =>
 ev (sto 1 H8 v18 x2) fun H19 =>
 Q (.bool false) H19) (
 ev (nilV x0) fun v20 =>
 ev (fldA 0 v20) fun v21 =>
 ev (nilV x0) fun v22 =>
 ev (fldA 0 v22) fun v23 =>
 ev (ld1 H8 v23) fun v24 =>
 ev (ixS 1 v24 v9) fun v25 =>
 ev (ld1 H8 v25) fun v26 =>
 ev (bldV [(.int .u64 0), (.int .i64 0)] [(0, 1, x1), (1, 1, x2)]) fun v27 =>
 ev (ld1 H8 v21) fun v28 =>
 ev (bldL (zRow 1 [(.int .u64 0), (.int .i64 0)]) [(0, 2, v27)]) fun l29 =>
 nsW 314 1 1 l29 H8 fun v30 H31 =>
 ev (ld1 H31 v21) fun v32 =>
 v32 = v28 ∧
 appW PP 315 315 v26 v30 H31 fun v33 H34 =>
 ev (ld1 H34 v21) fun v35 =>
 v35 = v28 ∧
 ev (ixS 1 v28 v9) fun v36 =>
 ev (sto 1 H34 v36 v33) fun H37 =>
 ev (nilV x0) fun v38 =>
 ev (fldA 1 v38) fun v39 =>
 ev (ld1 H37 v39) fun v40 =>
 ev (intV .add v40 (.int .i64 1)) fun v41 =>
 ev (nilV x0) fun v42 =>
 ev (fldA 1 v42) fun v43 =>
 ev (sto 1 H37 v43 v41) fun H44 =>
 ∀ K45 : List Value → Heap → Prop, (∀ H46, 
 (Q (.bool true) H46) → K45 [] H46) →
 ev (nilV x0) fun v47 =>
 ev (fldA 0 v47) fun v48 =>
 ev (ld1 H44 v48) fun v49 =>
 ev (lenS v49) fun v50 =>
 ev (nilV x0) fun v51 =>
 ev (fldA 1 v51) fun v52 =>
 ev (ld1 H44 v52) fun v53 =>
 ev (intV .mul (.int .i64 2) v50) fun v54 =>
 ev (intV .gtr v53 v54) fun v55 =>
 Br v55 (
 ev (nilV x0) fun v56 =>
 ev (fldA 0 v56) fun v57 =>
 ev (ld1 H44 v57) fun v58 =>
 ev (bldL (zRow 1 [(.slice none 0 0)]) [(0, 1, (.slice none 0 0))]) fun l59 =>
 nsW 315 1 1 l59 H44 fun v60 H61 =>
 appW PP 249 249 v58 v60 H61 fun v62 H63 =>
 ev (nilV x0) fun v64 =>
 ev (fldA 0 v64) fun v65 =>
 ev (sto 1 H63 v65 v62) fun H66 =>
 T PP 262 [v50] H66 fun v67 H68 =>
 ev (convV .i64 v67) fun v69 =>
 ev (intV .sub v50 v69) fun v70 =>
 T PP 261 [x0, v70] H68 fun _ H72 =>
 K45 [] H72) (
 K45 [] H44)))
theorem T154 {x0 x1 x2 : Value} {Q : Value → Heap → Prop} {H : Heap} (h : sh154 x0 x1 x2 Q H) : T PP 154 [x0, x1, x2] H Q :=
  T_of_eq eok foll (.s .n (.s .n (.s .n (.s .n (.s .n (.s .n (.j [] .n .n))))))) Tryz.func154 (by kernel_rfl) (by kernel_rfl) (by kernel_rfl) h
/-- escutcheon/path.Key -/
def sh155 (x0 : Value) (Q : Value → Heap → Prop) (H : Heap) : Prop :=
 alW 39 (Value.cells x0).toList H fun v2 H3 =>
 ev (ldn 5 H3 v2) fun v4 =>
 T PP 210 [v4] H3 fun v5 H6 =>
 ev (unV .not v5) fun v7 =>
 Br v7 (
 Q (.int .u64 0) H6) (
 ev (fldA 0 v2) fun v8 =>
 ev (fldA 4 v2) fun v9 =>
 ev (ld1 H6 v9) fun v10 =>
 ev (slP 4 1 v8 none (some v10) none) fun v11 =>
 ev (lenS v11) fun v12 =>
 ∀ I13 : List Value → Heap → Prop, (∀ H14, ∀ x15, ∀ x16, ∀ x17, ∀ x18, 
 (ev (intV .lss x18 x17) fun v19 =>
 Br v19 (
 ev (ixS 1 x16 x18) fun v20 =>
 ev (ld1 H14 v20) fun v21 =>
 ev (intV .mul x15 (.int .u64 1001)) fun v22 =>
 ev (convV .u64 v21) fun v23 =>
 ev (intV .add v22 v23) fun v24 =>
 ev (intV .add v24 (.int .u64 1)) fun v25 =>
 ev (intV .add x18 (.int .i64 1)) fun v26 =>
 I13 [v25, x16, x17, v26] H14) (
 Q x15 H14)) → I13 [x15, x16, x17, x18] H14) →
 I13 [(.int .u64 0), v11, v12, (.int .i64 0)] H6)
theorem T155 {x0 : Value} {Q : Value → Heap → Prop} {H : Heap} (h : sh155 x0 Q H) : T PP 155 [x0] H Q :=
  T_of_eq eok foll (.s .n (.s .n (.s .n (.s (.s .n (.k (.l [3, 13, 14, 15] .n))) .n)))) Tryz.func155 (by kernel_rfl) (by kernel_rfl) (by kernel_rfl) h
/-- (*escutcheon/queue.Queue).Ask -/
def sh156 (x0 x1 x2 x3 : Value) (Q : Value → Heap → Prop) (H : Heap) : Prop :=
 ev (notB false (eqP x0 (.pointer none))) fun v5 =>
 Br v5 (
 Q (.tuple #[(.int .i64 0), (.int .i64 70)]) H) (
 T PP 263 [x1, x2, x3] H fun v6 H7 =>
 ev (intV .neq v6 (.int .i64 0)) fun v8 =>
 Br v8 (
 Q (.tuple #[(.int .i64 0), v6]) H7) (
 ev (nilV x0) fun v9 =>
 ev (fldA 1 v9) fun v10 =>
 ev (ld1 H7 v10) fun v11 =>
 T PP 100 [v11, x1] H7 fun v12 H13 =>
 ev (intV .geq v12 (.int .i64 0)) fun v14 =>
 Br v14 (
 Q (.tuple #[(.int .i64 0), (.int .i64 3)]) H13) (
 T PP 102 [x0, x1] H13 fun v15 H16 =>
 T PP 264 [v15, x2] H16 fun v17 H18 =>
 ev (extrV 0 v17) fun v19 =>
 ev (extrV 1 v17) fun v20 =>
 ev (intV .neq v15 (.int .i64 0)) fun v21 =>
 ∀ K22 : List Value → Heap → Prop, (∀ H23, ∀ x24, ∀ x25, ∀ x26, ∀ x27, ∀ x28, ∀ x29, 
 (Br x29 (
 Q (.tuple #[(.int .i64 1), (.int .i64 0)]) H23) (
 T PP 265 [x24, x25, x27, x28] H23 fun v30 H31 =>
 Br v30 (
 ∀ K32 : List Value → Heap → Prop, (∀ H33, 
 (Q (.tuple #[(.int .i64 1), (.int .i64 0)]) H33) → K32 [] H33) →
 ev (intV .neq x26 (.int .i64 2)) fun v34 =>
 Br v34 (
 ev (nilV x24) fun v35 =>
 ev (fldA 0 v35) fun v36 =>
 ev (ld1 H31 v36) fun v37 =>
 T PP 266 [v37, x25, x27] H31 fun v38 H39 =>
 ev (nilV x24) fun v40 =>
 ev (fldA 0 v40) fun v41 =>
 ev (sto 1 H39 v41 v38) fun H42 =>
 K32 [] H42) (
 K32 [] H31)) (
 ev (intV .eql x26 (.int .i64 1)) fun v43 =>
 Br v43 (
 Q (.tuple #[(.int .i64 0), (.int .i64 40)]) H31) (
 ev (nilV x24) fun v44 =>
 ev (fldA 1 v44) fun v45 =>
 ev (ld1 H31 v45) fun v46 =>
 ev (intV .eql x26 (.int .i64 2)) fun v47 =>
 ev (bldV [(.int .i64 0), (.int .i64 0), (.bool false), (.bool false)] [(0, 1, x25), (1, 1, x27), (2, 1, x28), (3, 1, v47)]) fun v48 =>
 T PP 267 [v46, v48] H31 fun v49 H50 =>
 ev (nilV x24) fun v51 =>
 ev (fldA 1 v51) fun v52 =>
 ev (sto 1 H50 v52 v49) fun H53 =>
 Q (.tuple #[(.int .i64 2), (.int .i64 0)]) H53)))) → K22 [x24, x25, x26, x27, x28, x29] H23) →
 Br v21 (
 ev (unV .not v20) fun v54 =>
 K22 [x0, x1, x3, v19, v21, v54] H18) (
 K22 [x0, x1, x3, v19, v21, (.bool false)] H18))))
theorem T156 {x0 x1 x2 x3 : Value} {Q : Value → Heap → Prop} {H : Heap} (h : sh156 x0 x1 x2 x3 Q H) : T PP 156 [x0, x1, x2, x3] H Q :=
  T_of_eq eok foll (.s .n (.s .n (.s .n (.s .n (.s .n (.s .n (.s .n (.s (.k (.j [0, 1, 3, 12, 14, 42] .n (.c .n (.s .n (.c (.j [] .n .n) .n))))) .n)))))))) Tryz.func156 (by kernel_rfl) (by kernel_rfl) (by kernel_rfl) h
/-- (*escutcheon/queue.Queue).Copy -/
def sh157 (x0 : Value) (Q : Value → Heap → Prop) (H : Heap) : Prop :=
 ev (notB false (eqP x0 (.pointer none))) fun v2 =>
 Br v2 (
 Q (.pointer none) H) (
 T PP 144 [x0] H fun v3 H4 =>
 T PP 99 [x0] H4 fun v5 H6 =>
 ev (bldV [(.slice none 0 0), (.slice none 0 0)] [(0, 1, v3), (1, 1, v5)]) fun v7 =>
 alW 212 (Value.cells v7).toList H6 fun v8 H9 =>
 Q v8 H9)
theorem T157 {x0 : Value} {Q : Value → Heap → Prop} {H : Heap} (h : sh157 x0 Q H) : T PP 157 [x0] H Q :=
  T_of_eq eok foll .n Tryz.func157 (by kernel_rfl) (by kernel_rfl) (by kernel_rfl) h
/-- escutcheon/mode.May -/
def sh166 (x0 : Value) (Q : Value → Heap → Prop) (H : Heap) : Prop :=
 ev (intV .geq x0 (.int .i64 0)) fun v2 =>
 Br v2 (
 ev (intV .lss x0 (.int .i64 7)) fun v3 =>
 Q v3 H) (
 Q (.bool false) H)
theorem T166 {x0 : Value} {Q : Value → Heap → Prop} {H : Heap} (h : sh166 x0 Q H) : T PP 166 [x0] H Q :=
  T_of_eq eok foll .n Tryz.func166 (by kernel_rfl) (by kernel_rfl) (by kernel_rfl) h
/-- escutcheon/mode.Sup -/
def sh168 (x0 x1 : Value) (Q : Value → Heap → Prop) (H : Heap) : Prop :=
 T PP 206 [x0] H fun v3 H4 =>
 T PP 206 [x1] H4 fun v5 H6 =>
 ev (realV v3) fun v7 =>
 ev (realV v5) fun v8 =>
 ev (maxV v7 v8) fun v9 =>
 ev (imagV v3) fun v10 =>
 ev (imagV v5) fun v11 =>
 ev (maxV v10 v11) fun v12 =>
 ev (cplxV v9 v12) fun v13 =>
 T PP 276 [v13] H6 fun v14 H15 =>
 Q v14 H15
theorem T168 {x0 x1 : Value} {Q : Value → Heap → Prop} {H : Heap} (h : sh168 x0 x1 Q H) : T PP 168 [x0, x1] H Q :=
  T_of_eq eok foll .n Tryz.func168 (by kernel_rfl) (by kernel_rfl) (by kernel_rfl) h
/-- slices.pdqsortCmpFunc[escutcheon/api.Edge] -/
def sh182 (x0 x1 x2 x3 x4 : Value) (Q : Value → Heap → Prop) (H : Heap) : Prop :=
 ∀ I6 : List Value → Heap → Prop, (∀ H7, ∀ x8, ∀ x9, ∀ x10, ∀ x11, ∀ x12, ∀ x13, ∀ x14, 
 (ev (intV .sub x10 x9) fun v15 =>
 ev (intV .leq v15 (.int .i64 12)) fun v16 =>
 Br v16 (
 T PP 293 [x8, x9, x10, x12] H7 fun _ H18 =>
 Q (.tuple #[]) H18) (
 ev (intV .eql x11 (.int .i64 0)) fun v19 =>
 Br v19 (
 T PP 294 [x8, x9, x10, x12] H7 fun _ H21 =>
 Q (.tuple #[]) H21) (
 ∀ K22 : List Value → Heap → Prop, (∀ H23, ∀ x24, ∀ x25, ∀ x26, ∀ x27, ∀ x28, ∀ x29, ∀ x30, ∀ x31, 
 (T PP 296 [x24, x25, x26, x28] H23 fun v32 H33 =>
 ev (extrV 0 v32) fun v34 =>
 ev (extrV 1 v32) fun v35 =>
 ∀ K36 : List Value → Heap → Prop, (∀ H37, ∀ x38, ∀ x39, ∀ x40, ∀ x41, ∀ x42, ∀ x43, ∀ x44, ∀ x45, ∀ x46, ∀ x47, 
 (∀ K48 : List Value → Heap → Prop, (∀ H49, ∀ x50, ∀ x51, ∀ x52, ∀ x53, ∀ x54, ∀ x55, ∀ x56, ∀ x57, ∀ x58, 
 (∀ K59 : List Value → Heap → Prop, (∀ H60, ∀ x61, ∀ x62, ∀ x63, ∀ x64, ∀ x65, ∀ x66, ∀ x67, ∀ x68, ∀ x69, ∀ x70, 
 (Br x70 (
 T PP 299 [x61, x62, x63, x69, x65] H60 fun v71 H72 =>
 I6 [x61, v71, x63, x64, x65, x66, x67] H72) (
 T PP 300 [x61, x62, x63, x69, x65] H60 fun v73 H74 =>
 ev (extrV 0 v73) fun v75 =>
 ev (extrV 1 v73) fun v76 =>
 ev (intV .sub v75 x62) fun v77 =>
 ev (intV .sub x63 v75) fun v78 =>
 ev (intV .quo x68 (.int .i64 8)) fun v79 =>
 ev (intV .lss v77 v78) fun v80 =>
 Br v80 (
 ev (intV .geq v77 v79) fun v81 =>
 T PP 182 [x61, x62, v75, x64, x65] H74 fun _ H83 =>
 ev (intV .add v75 (.int .i64 1)) fun v84 =>
 I6 [x61, v84, x63, x64, x65, v81, v76] H83) (
 ev (intV .geq v78 v79) fun v85 =>
 ev (intV .add v75 (.int .i64 1)) fun v86 =>
 T PP 182 [x61, v86, x63, x64, x65] H74 fun _ H88 =>
 I6 [x61, x62, v75, x64, x65, v85, v76] H88))) → K59 [x61, x62, x63, x64, x65, x66, x67, x68, x69, x70] H60) →
 ev (intV .gtr x51 (.int .i64 0)) fun v89 =>
 Br v89 (
 ev (intV .sub x51 (.int .i64 1)) fun v90 =>
 ev (ixS 2 x50 v90) fun v91 =>
 ev (ldn 2 H49 v91) fun v92 =>
 ev (ixS 2 x50 x58) fun v93 =>
 ev (ldn 2 H49 v93) fun v94 =>
 clW PP x54 [v92, v94] H49 fun v95 H96 =>
 ev (intV .lss v95 (.int .i64 0)) fun v97 =>
 ev (unV .not v97) fun v98 =>
 K59 [x50, x51, x52, x53, x54, x55, x56, x57, x58, v98] H96) (
 K59 [x50, x51, x52, x53, x54, x55, x56, x57, x58, (.bool false)] H49)) → K48 [x50, x51, x52, x53, x54, x55, x56, x57, x58] H49) →
 ∀ K99 : List Value → Heap → Prop, (∀ H100, ∀ x101, ∀ x102, ∀ x103, ∀ x104, ∀ x105, ∀ x106, ∀ x107, ∀ x108, ∀ x109, ∀ x110, 
 (Br x110 (
 T PP 298 [x101, x102, x103, x105] H100 fun v111 H112 =>
 Br v111 (
 Q (.tuple #[]) H112) (
 K48 [x101, x102, x103, x104, x105, x106, x107, x108, x109] H112)) (
 K48 [x101, x102, x103, x104, x105, x106, x107, x108, x109] H100)) → K99 [x101, x102, x103, x104, x105, x106, x107, x108, x109, x110] H100) →
 Br x43 (
 Br x44 (
 ev (intV .eql x47 (.int .i64 1)) fun v113 =>
 K99 [x38, x39, x40, x41, x42, x43, x44, x45, x46, v113] H37) (
 K99 [x38, x39, x40, x41, x42, x43, x44, x45, x46, (.bool false)] H37)) (
 K99 [x38, x39, x40, x41, x42, x43, x44, x45, x46, (.bool false)] H37)) → K36 [x38, x39, x40, x41, x42, x43, x44, x45, x46, x47] H37) →
 ev (intV .eql v35 (.int .i64 2)) fun v114 =>
 Br v114 (
 T PP 297 [x24, x25, x26, x28] H33 fun _ H116 =>
 ev (intV .sub x26 (.int .i64 1)) fun v117 =>
 ev (intV .sub v34 x25) fun v118 =>
 ev (intV .sub v117 v118) fun v119 =>
 K36 [x24, x25, x26, x27, x28, x29, x30, x31, v119, (.int .i64 1)] H116) (
 K36 [x24, x25, x26, x27, x28, x29, x30, x31, v34, v35] H33)) → K22 [x24, x25, x26, x27, x28, x29, x30, x31] H23) →
 ev (unV .not x13) fun v120 =>
 Br v120 (
 T PP 295 [x8, x9, x10, x12] H7 fun _ H122 =>
 ev (intV .sub x11 (.int .i64 1)) fun v123 =>
 K22 [x8, x9, x10, v123, x12, x13, x14, v15] H122) (
 K22 [x8, x9, x10, x11, x12, x13, x14, v15] H7)))) → I6 [x8, x9, x10, x11, x12, x13, x14] H7) →
 I6 [x0, x1, x2, x3, x4, (.bool true), (.bool true)] H
theorem T182 {x0 x1 x2 x3 x4 : Value} {Q : Value → Heap → Prop} {H : Heap} (h : sh182 x0 x1 x2 x3 x4 Q H) : T PP 182 [x0, x1, x2, x3, x4] H Q :=
  T_of_eq eok foll (.s .n (.s .n (.k (.l [0, 1, 2, 3, 4, 10, 11] (.k (.s .n (.s .n (.s .n (.j [0, 1, 2, 3, 4, 10, 11, 12] .n (.s .n (.j [0, 1, 2, 3, 4, 10, 11, 12, 13, 14] .n (.j [0, 1, 2, 3, 4, 10, 11, 12, 13] (.j [0, 1, 2, 3, 4, 10, 11, 12, 13, 75] .n .n) (.s (.j [0, 1, 2, 3, 4, 10, 11, 12, 13, 97] .n .n) .n))))))))))))) Tryz.func182 (by kernel_rfl) (by kernel_rfl) (by kernel_rfl) h
end Go.Sl

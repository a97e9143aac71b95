/- Printed by a program: what each Go function asks, and that this is enough (second part). -/
import Derived.Test.YtjneoighgbggcaaGreatB0
namespace Go.Sl
open Go Go.Proofs

/-- math/bits.Len -/
def sh183 (x0 : Value) (Q : Value → Heap → Prop) (H : Heap) : Prop :=
 T PP 302 [x0] H fun v2 H3 =>
 Q v2 H3
theorem T183 {x0 : Value} {Q : Value → Heap → Prop} {H : Heap} (h : sh183 x0 Q H) : T PP 183 [x0] H Q :=
  T_of_eq eok foll .n Tryz.func183 (by kernel_rfl) (by kernel_rfl) (by kernel_rfl) h
/-- slices.pdqsortOrdered[int] -/
def sh184 (x0 x1 x2 x3 : Value) (Q : Value → Heap → Prop) (H : Heap) : Prop :=
 ∀ I5 : List Value → Heap → Prop, (∀ H6, ∀ x7, ∀ x8, ∀ x9, ∀ x10, ∀ x11, ∀ x12, 
 (ev (intV .sub x9 x8) fun v13 =>
 ev (intV .leq v13 (.int .i64 12)) fun v14 =>
 Br v14 (
 T PP 303 [x7, x8, x9] H6 fun _ H16 =>
 Q (.tuple #[]) H16) (
 ev (intV .eql x10 (.int .i64 0)) fun v17 =>
 Br v17 (
 T PP 304 [x7, x8, x9] H6 fun _ H19 =>
 Q (.tuple #[]) H19) (
 ∀ K20 : List Value → Heap → Prop, (∀ H21, ∀ x22, ∀ x23, ∀ x24, ∀ x25, ∀ x26, ∀ x27, ∀ x28, 
 (T PP 306 [x22, x23, x24] H21 fun v29 H30 =>
 ev (extrV 0 v29) fun v31 =>
 ev (extrV 1 v29) fun v32 =>
 ∀ K33 : List Value → Heap → Prop, (∀ H34, ∀ x35, ∀ x36, ∀ x37, ∀ x38, ∀ x39, ∀ x40, ∀ x41, ∀ x42, ∀ x43, 
 (∀ K44 : List Value → Heap → Prop, (∀ H45, ∀ x46, ∀ x47, ∀ x48, ∀ x49, ∀ x50, ∀ x51, ∀ x52, ∀ x53, 
 (∀ K54 : List Value → Heap → Prop, (∀ H55, ∀ x56, ∀ x57, ∀ x58, ∀ x59, ∀ x60, ∀ x61, ∀ x62, ∀ x63, ∀ x64, 
 (Br x64 (
 T PP 310 [x56, x57, x58, x63] H55 fun v65 H66 =>
 I5 [x56, v65, x58, x59, x60, x61] H66) (
 T PP 311 [x56, x57, x58, x63] H55 fun v67 H68 =>
 ev (extrV 0 v67) fun v69 =>
 ev (extrV 1 v67) fun v70 =>
 ev (intV .sub v69 x57) fun v71 =>
 ev (intV .sub x58 v69) fun v72 =>
 ev (intV .quo x62 (.int .i64 8)) fun v73 =>
 ev (intV .lss v71 v72) fun v74 =>
 Br v74 (
 ev (intV .geq v71 v73) fun v75 =>
 T PP 184 [x56, x57, v69, x59] H68 fun _ H77 =>
 ev (intV .add v69 (.int .i64 1)) fun v78 =>
 I5 [x56, v78, x58, x59, v75, v70] H77) (
 ev (intV .geq v72 v73) fun v79 =>
 ev (intV .add v69 (.int .i64 1)) fun v80 =>
 T PP 184 [x56, v80, x58, x59] H68 fun _ H82 =>
 I5 [x56, x57, v69, x59, v79, v70] H82))) → K54 [x56, x57, x58, x59, x60, x61, x62, x63, x64] H55) →
 ev (intV .gtr x47 (.int .i64 0)) fun v83 =>
 Br v83 (
 ev (intV .sub x47 (.int .i64 1)) fun v84 =>
 ev (ixS 1 x46 v84) fun v85 =>
 ev (ld1 H45 v85) fun v86 =>
 ev (ixS 1 x46 x53) fun v87 =>
 ev (ld1 H45 v87) fun v88 =>
 T PP 309 [v86, v88] H45 fun v89 H90 =>
 ev (unV .not v89) fun v91 =>
 K54 [x46, x47, x48, x49, x50, x51, x52, x53, v91] H90) (
 K54 [x46, x47, x48, x49, x50, x51, x52, x53, (.bool false)] H45)) → K44 [x46, x47, x48, x49, x50, x51, x52, x53] H45) →
 ∀ K92 : List Value → Heap → Prop, (∀ H93, ∀ x94, ∀ x95, ∀ x96, ∀ x97, ∀ x98, ∀ x99, ∀ x100, ∀ x101, ∀ x102, 
 (Br x102 (
 T PP 308 [x94, x95, x96] H93 fun v103 H104 =>
 Br v103 (
 Q (.tuple #[]) H104) (
 K44 [x94, x95, x96, x97, x98, x99, x100, x101] H104)) (
 K44 [x94, x95, x96, x97, x98, x99, x100, x101] H93)) → K92 [x94, x95, x96, x97, x98, x99, x100, x101, x102] H93) →
 Br x39 (
 Br x40 (
 ev (intV .eql x43 (.int .i64 1)) fun v105 =>
 K92 [x35, x36, x37, x38, x39, x40, x41, x42, v105] H34) (
 K92 [x35, x36, x37, x38, x39, x40, x41, x42, (.bool false)] H34)) (
 K92 [x35, x36, x37, x38, x39, x40, x41, x42, (.bool false)] H34)) → K33 [x35, x36, x37, x38, x39, x40, x41, x42, x43] H34) →
 ev (intV .eql v32 (.int .i64 2)) fun v106 =>
 Br v106 (
 T PP 307 [x22, x23, x24] H30 fun _ H108 =>
 ev (intV .sub x24 (.int .i64 1)) fun v109 =>
 ev (intV .sub v31 x23) fun v110 =>
 ev (intV .sub v109 v110) fun v111 =>
 K33 [x22, x23, x24, x25, x26, x27, x28, v111, (.int .i64 1)] H108) (
 K33 [x22, x23, x24, x25, x26, x27, x28, v31, v32] H30)) → K20 [x22, x23, x24, x25, x26, x27, x28] H21) →
 ev (unV .not x11) fun v112 =>
 Br v112 (
 T PP 305 [x7, x8, x9] H6 fun _ H114 =>
 ev (intV .sub x10 (.int .i64 1)) fun v115 =>
 K20 [x7, x8, x9, v115, x11, x12, v13] H114) (
 K20 [x7, x8, x9, x10, x11, x12, v13] H6)))) → I5 [x7, x8, x9, x10, x11, x12] H6) →
 I5 [x0, x1, x2, x3, (.bool true), (.bool true)] H
theorem T184 {x0 x1 x2 x3 : Value} {Q : Value → Heap → Prop} {H : Heap} (h : sh184 x0 x1 x2 x3 Q H) : T PP 184 [x0, x1, x2, x3] H Q :=
  T_of_eq eok foll (.s .n (.s .n (.k (.l [0, 1, 2, 3, 8, 9] (.k (.s .n (.s .n (.s .n (.j [0, 1, 2, 3, 8, 9, 10] .n (.s .n (.j [0, 1, 2, 3, 8, 9, 10, 11, 12] .n (.j [0, 1, 2, 3, 8, 9, 10, 11] (.j [0, 1, 2, 3, 8, 9, 10, 11, 68] .n .n) (.s (.j [0, 1, 2, 3, 8, 9, 10, 11, 87] .n .n) .n))))))))))))) Tryz.func184 (by kernel_rfl) (by kernel_rfl) (by kernel_rfl) h
/-- (*escutcheon/table.Table).ok -/
def sh185 (x0 : Value) (Q : Value → Heap → Prop) (H : Heap) : Prop :=
 ev (notB true (eqP x0 (.pointer none))) fun v2 =>
 Br v2 (
 ev (nilV x0) fun v3 =>
 ev (fldA 1 v3) fun v4 =>
 ev (ld1 H v4) fun v5 =>
 ev (notB true (eqP v5 (.pointer none))) fun v6 =>
 Q v6 H) (
 Q (.bool false) H)
theorem T185 {x0 : Value} {Q : Value → Heap → Prop} {H : Heap} (h : sh185 x0 Q H) : T PP 185 [x0] H Q :=
  T_of_eq eok foll .n Tryz.func185 (by kernel_rfl) (by kernel_rfl) (by kernel_rfl) h
/-- (*escutcheon/arena.Arena[escutcheon/table.head]).Used -/
def sh193 (x0 : Value) (Q : Value → Heap → Prop) (H : Heap) : Prop :=
 alW 134 (Value.cells x0).toList H fun v2 H3 =>
 Q (.func (.func 317) #[] #[v2]) H3
theorem T193 {x0 : Value} {Q : Value → Heap → Prop} {H : Heap} (h : sh193 x0 Q H) : T PP 193 [x0] H Q :=
  T_of_eq eok foll .n Tryz.func193 (by kernel_rfl) (by kernel_rfl) (by kernel_rfl) h
/-- slices.SortFunc[[]escutcheon/table.head,escutcheon/table.head] -/
def sh194 (x0 x1 : Value) (Q : Value → Heap → Prop) (H : Heap) : Prop :=
 ev (lenS x0) fun v3 =>
 ev (convV .u64 v3) fun v4 =>
 T PP 183 [v4] H fun v5 H6 =>
 T PP 318 [x0, (.int .i64 0), v3, v5, x1] H6 fun _ H8 =>
 Q (.tuple #[]) H8
theorem T194 {x0 x1 : Value} {Q : Value → Heap → Prop} {H : Heap} (h : sh194 x0 x1 Q H) : T PP 194 [x0, x1] H Q :=
  T_of_eq eok foll .n Tryz.func194 (by kernel_rfl) (by kernel_rfl) (by kernel_rfl) h
/-- (*escutcheon/table.Table).all$1 -/
def sh195 (x0 x1 : Value) (Q : Value → Heap → Prop) (H : Heap) : Prop :=
 alW 138 (Value.cells x0).toList H fun v3 H4 =>
 alW 138 (Value.cells x1).toList H4 fun v5 H6 =>
 ev (fldA 0 v3) fun v7 =>
 ev (ldn 5 H6 v7) fun v8 =>
 ev (fldA 0 v5) fun v9 =>
 ev (ldn 5 H6 v9) fun v10 =>
 T PP 196 [v8, v10] H6 fun v11 H12 =>
 Br v11 (
 Q (.int .i64 (-1)) H12) (
 Q (.int .i64 1) H12)
theorem T195 {x0 x1 : Value} {Q : Value → Heap → Prop} {H : Heap} (h : sh195 x0 x1 Q H) : T PP 195 [x0, x1] H Q :=
  T_of_eq eok foll .n Tryz.func195 (by kernel_rfl) (by kernel_rfl) (by kernel_rfl) h
/-- escutcheon/path.Less -/
def sh196 (x0 x1 : Value) (Q : Value → Heap → Prop) (H : Heap) : Prop :=
 alW 39 (Value.cells x0).toList H fun v3 H4 =>
 alW 39 (Value.cells x1).toList H4 fun v5 H6 =>
 ∀ K7 : List Value → Heap → Prop, (∀ H8, ∀ x9, ∀ x10, ∀ x11, 
 (Br x11 (
 Q (.bool false) H8) (
 ev (fldA 4 x9) fun v12 =>
 ev (ld1 H8 v12) fun v13 =>
 ev (fldA 4 x10) fun v14 =>
 ev (ld1 H8 v14) fun v15 =>
 ev (minV v13 v15) fun v16 =>
 ∀ I17 : List Value → Heap → Prop, (∀ H18, ∀ x19, ∀ x20, ∀ x21, ∀ x22, 
 (ev (intV .lss x22 x21) fun v23 =>
 Br v23 (
 ev (fldA 0 x19) fun v24 =>
 ev (ixP 4 1 v24 x22) fun v25 =>
 ev (ld1 H18 v25) fun v26 =>
 ev (fldA 0 x20) fun v27 =>
 ev (ixP 4 1 v27 x22) fun v28 =>
 ev (ld1 H18 v28) fun v29 =>
 ev (intV .neq v26 v29) fun v30 =>
 Br v30 (
 ev (fldA 0 x19) fun v31 =>
 ev (ixP 4 1 v31 x22) fun v32 =>
 ev (ld1 H18 v32) fun v33 =>
 ev (fldA 0 x20) fun v34 =>
 ev (ixP 4 1 v34 x22) fun v35 =>
 ev (ld1 H18 v35) fun v36 =>
 ev (intV .lss v33 v36) fun v37 =>
 Q v37 H18) (
 ev (intV .add x22 (.int .i64 1)) fun v38 =>
 I17 [x19, x20, x21, v38] H18)) (
 ev (fldA 4 x19) fun v39 =>
 ev (ld1 H18 v39) fun v40 =>
 ev (fldA 4 x20) fun v41 =>
 ev (ld1 H18 v41) fun v42 =>
 ev (intV .lss v40 v42) fun v43 =>
 Q v43 H18)) → I17 [x19, x20, x21, x22] H18) →
 I17 [x9, x10, v16, (.int .i64 0)] H8)) → K7 [x9, x10, x11] H8) →
 ev (ldn 5 H6 v3) fun v44 =>
 T PP 210 [v44] H6 fun v45 H46 =>
 ev (unV .not v45) fun v47 =>
 Br v47 (
 K7 [v3, v5, (.bool true)] H46) (
 ev (ldn 5 H46 v5) fun v48 =>
 T PP 210 [v48] H46 fun v49 H50 =>
 ev (unV .not v49) fun v51 =>
 K7 [v3, v5, v51] H50)
theorem T196 {x0 x1 : Value} {Q : Value → Heap → Prop} {H : Heap} (h : sh196 x0 x1 Q H) : T PP 196 [x0, x1] H Q :=
  T_of_eq eok foll (.s .n (.s (.j [2, 3, 13] .n .n) (.s (.s .n (.k (.l [2, 3, 18, 19] .n))) .n))) Tryz.func196 (by kernel_rfl) (by kernel_rfl) (by kernel_rfl) h
/-- slices.Clone[[]escutcheon/api.Wait,escutcheon/api.Wait] -/
def sh197 (x0 : Value) (Q : Value → Heap → Prop) (H : Heap) : Prop :=
 ev (notB false (eqS x0 (.slice none 0 0))) fun v2 =>
 Br v2 (
 Q (.slice none 0 0) H) (
 ev (bldL (zRow 0 [(.int .i64 0), (.int .i64 0), (.bool false), (.bool false)]) []) fun l3 =>
 nsW 48 0 0 l3 H fun v4 H5 =>
 appW PP 45 45 v4 x0 H5 fun v6 H7 =>
 Q v6 H7)
theorem T197 {x0 : Value} {Q : Value → Heap → Prop} {H : Heap} (h : sh197 x0 Q H) : T PP 197 [x0] H Q :=
  T_of_eq eok foll .n Tryz.func197 (by kernel_rfl) (by kernel_rfl) (by kernel_rfl) h
/-- slices.IndexFunc[[]escutcheon/api.Wait,escutcheon/api.Wait] -/
def sh198 (x0 x1 : Value) (Q : Value → Heap → Prop) (H : Heap) : Prop :=
 ev (lenS x0) fun v3 =>
 ∀ I4 : List Value → Heap → Prop, (∀ H5, ∀ x6, ∀ x7, ∀ x8, ∀ x9, 
 (ev (intV .lss x9 x8) fun v10 =>
 Br v10 (
 ev (ixS 4 x6 x9) fun v11 =>
 ev (ldn 4 H5 v11) fun v12 =>
 clW PP x7 [v12] H5 fun v13 H14 =>
 Br v13 (
 Q x9 H14) (
 ev (intV .add x9 (.int .i64 1)) fun v15 =>
 I4 [x6, x7, x8, v15] H14)) (
 Q (.int .i64 (-1)) H5)) → I4 [x6, x7, x8, x9] H5) →
 I4 [x0, x1, v3, (.int .i64 0)] H
theorem T198 {x0 x1 : Value} {Q : Value → Heap → Prop} {H : Heap} (h : sh198 x0 x1 Q H) : T PP 198 [x0, x1] H Q :=
  T_of_eq eok foll (.s .n (.s (.s .n (.k (.l [0, 1, 7, 8] .n))) .n)) Tryz.func198 (by kernel_rfl) (by kernel_rfl) (by kernel_rfl) h
/-- escutcheon/request.of -/
def sh199 (x0 : Value) (Q : Value → Heap → Prop) (H : Heap) : Prop :=
 alW 3 (Value.cells x0).toList H fun v2 H3 =>
 Q (.func (.func 319) #[] #[v2]) H3
theorem T199 {x0 : Value} {Q : Value → Heap → Prop} {H : Heap} (h : sh199 x0 Q H) : T PP 199 [x0] H Q :=
  T_of_eq eok foll .n Tryz.func199 (by kernel_rfl) (by kernel_rfl) (by kernel_rfl) h
/-- escutcheon/group.Of -/
def sh203 (x0 x1 : Value) (Q : Value → Heap → Prop) (H : Heap) : Prop :=
 T PP 321 [x0, x1] H fun v3 H4 =>
 ev (intV .lss v3 (.int .i64 0)) fun v5 =>
 Br v5 (
 Q (.int .i64 0) H4) (
 ev (ixS 2 x0 v3) fun v6 =>
 ev (fldA 1 v6) fun v7 =>
 ev (ld1 H4 v7) fun v8 =>
 Q v8 H4)
theorem T203 {x0 x1 : Value} {Q : Value → Heap → Prop} {H : Heap} (h : sh203 x0 x1 Q H) : T PP 203 [x0, x1] H Q :=
  T_of_eq eok foll .n Tryz.func203 (by kernel_rfl) (by kernel_rfl) (by kernel_rfl) h
/-- escutcheon/mode.At -/
def sh206 (x0 : Value) (Q : Value → Heap → Prop) (H : Heap) : Prop :=
 T PP 322 [] H fun v2 H3 =>
 T PP 323 [x0] H3 fun v4 H5 =>
 ev (ixA 7 false 1 v2 v4) fun v6 =>
 Q v6 H5
theorem T206 {x0 : Value} {Q : Value → Heap → Prop} {H : Heap} (h : sh206 x0 Q H) : T PP 206 [x0] H Q :=
  T_of_eq eok foll .n Tryz.func206 (by kernel_rfl) (by kernel_rfl) (by kernel_rfl) h
/-- escutcheon/path.May -/
def sh210 (x0 : Value) (Q : Value → Heap → Prop) (H : Heap) : Prop :=
 alW 39 (Value.cells x0).toList H fun v2 H3 =>
 ∀ K4 : List Value → Heap → Prop, (∀ H5, ∀ x6, ∀ x7, 
 (Br x7 (
 Q (.bool false) H5) (
 ev (fldA 0 x6) fun v8 =>
 ev (ldn 4 H5 v8) fun v9 =>
 ∀ I10 : List Value → Heap → Prop, (∀ H11, ∀ x12, ∀ x13, ∀ x14, 
 (ev (intV .lss x14 (.int .i64 4)) fun v15 =>
 Br v15 (
 ev (ixA 4 false 1 x13 x14) fun v16 =>
 ∀ K17 : List Value → Heap → Prop, (∀ H18, ∀ x19, ∀ x20, ∀ x21, ∀ x22, 
 (Br x22 (
 Q (.bool false) H18) (
 ev (intV .add x21 (.int .i64 1)) fun v23 =>
 I10 [x19, x20, v23] H18)) → K17 [x19, x20, x21, x22] H18) →
 ev (intV .lss v16 (.int .i64 0)) fun v24 =>
 Br v24 (
 K17 [x12, x13, x14, (.bool true)] H11) (
 ev (intV .gtr v16 (.int .i64 999)) fun v25 =>
 Br v25 (
 K17 [x12, x13, x14, (.bool true)] H11) (
 ev (fldA 4 x12) fun v26 =>
 ev (ld1 H11 v26) fun v27 =>
 ev (intV .geq x14 v27) fun v28 =>
 Br v28 (
 ev (intV .neq v16 (.int .i64 0)) fun v29 =>
 K17 [x12, x13, x14, v29] H11) (
 K17 [x12, x13, x14, (.bool false)] H11)))) (
 Q (.bool true) H11)) → I10 [x12, x13, x14] H11) →
 I10 [x6, v9, (.int .i64 0)] H5)) → K4 [x6, x7] H5) →
 ev (fldA 4 v2) fun v30 =>
 ev (ld1 H3 v30) fun v31 =>
 ev (intV .lss v31 (.int .i64 1)) fun v32 =>
 Br v32 (
 K4 [v2, (.bool true)] H3) (
 ev (fldA 4 v2) fun v33 =>
 ev (ld1 H3 v33) fun v34 =>
 ev (intV .gtr v34 (.int .i64 4)) fun v35 =>
 K4 [v2, v35] H3)
theorem T210 {x0 : Value} {Q : Value → Heap → Prop} {H : Heap} (h : sh210 x0 Q H) : T PP 210 [x0] H Q :=
  T_of_eq eok foll (.s .n (.s (.j [1, 12] .n .n) (.s (.s .n (.k (.l [1, 14, 15] (.s .n (.s .n (.s (.k (.s .n (.j [1, 14, 15, 34] .n .n))) .n)))))) .n))) Tryz.func210 (by kernel_rfl) (by kernel_rfl) (by kernel_rfl) h
/-- escutcheon/mode.Covers -/
def sh212 (x0 x1 : Value) (Q : Value → Heap → Prop) (H : Heap) : Prop :=
 T PP 206 [x1] H fun v3 H4 =>
 T PP 206 [x0] H4 fun v5 H6 =>
 T PP 326 [v3, v5] H6 fun v7 H8 =>
 Q v7 H8
theorem T212 {x0 x1 : Value} {Q : Value → Heap → Prop} {H : Heap} (h : sh212 x0 x1 Q H) : T PP 212 [x0, x1] H Q :=
  T_of_eq eok foll .n Tryz.func212 (by kernel_rfl) (by kernel_rfl) (by kernel_rfl) h
/-- escutcheon/mode.Compat -/
def sh228 (x0 x1 : Value) (Q : Value → Heap → Prop) (H : Heap) : Prop :=
 ev (bldV [(.bool false), (.bool false), (.bool false), (.bool false), (.bool false), (.bool false), (.bool false)] [(1, 1, (.bool true)), (2, 1, (.bool true)), (3, 1, (.bool true)), (4, 1, (.bool true)), (5, 1, (.bool true))]) fun v3 =>
 ev (bldV [(.bool false), (.bool false), (.bool false), (.bool false), (.bool false), (.bool false), (.bool false)] [(1, 1, (.bool true)), (2, 1, (.bool true))]) fun v4 =>
 ev (bldV [(.bool false), (.bool false), (.bool false), (.bool false), (.bool false), (.bool false), (.bool false)] [(1, 1, (.bool true)), (3, 1, (.bool true)), (5, 1, (.bool true))]) fun v5 =>
 ev (bldV [(.bool false), (.bool false), (.bool false), (.bool false), (.bool false), (.bool false), (.bool false)] [(1, 1, (.bool true))]) fun v6 =>
 ev (bldV [(.bool false), (.bool false), (.bool false), (.bool false), (.bool false), (.bool false), (.bool false)] [(1, 1, (.bool true))]) fun v7 =>
 ev (bldV [(.bool false), (.bool false), (.bool false), (.bool false), (.bool false), (.bool false), (.bool false), (.bool false), (.bool false), (.bool false), (.bool false), (.bool false), (.bool false), (.bool false), (.bool false), (.bool false), (.bool false), (.bool false), (.bool false), (.bool false), (.bool false), (.bool false), (.bool false), (.bool false), (.bool false), (.bool false), (.bool false), (.bool false), (.bool false), (.bool false), (.bool false), (.bool false), (.bool false), (.bool false), (.bool false), (.bool false), (.bool false), (.bool false), (.bool false), (.bool false), (.bool false), (.bool false), (.bool false), (.bool false), (.bool false), (.bool false), (.bool false), (.bool false), (.bool false)] [(7, 7, v3), (14, 7, v4), (21, 7, v5), (28, 7, v6), (35, 7, v7)]) fun v8 =>
 alW 367 [(.bool false), (.bool false), (.bool false), (.bool false), (.bool false), (.bool false), (.bool false), (.bool false), (.bool false), (.bool false), (.bool false), (.bool false), (.bool false), (.bool false), (.bool false), (.bool false), (.bool false), (.bool false), (.bool false), (.bool false), (.bool false), (.bool false), (.bool false), (.bool false), (.bool false), (.bool false), (.bool false), (.bool false), (.bool false), (.bool false), (.bool false), (.bool false), (.bool false), (.bool false), (.bool false), (.bool false), (.bool false), (.bool false), (.bool false), (.bool false), (.bool false), (.bool false), (.bool false), (.bool false), (.bool false), (.bool false), (.bool false), (.bool false), (.bool false)] H fun v9 H10 =>
 ev (sto 49 H10 v9 v8) fun H11 =>
 T PP 323 [x0] H11 fun v12 H13 =>
 T PP 323 [x1] H13 fun v14 H15 =>
 ev (intV .eql v12 (.int .i64 0)) fun v16 =>
 Br v16 (
 Q (.bool true) H15) (
 ev (intV .eql v14 (.int .i64 0)) fun v17 =>
 Br v17 (
 Q (.bool true) H15) (
 ev (ixP 7 7 v9 v12) fun v18 =>
 ev (ixP 7 1 v18 v14) fun v19 =>
 ev (ld1 H15 v19) fun v20 =>
 Q v20 H15))
theorem T228 {x0 x1 : Value} {Q : Value → Heap → Prop} {H : Heap} (h : sh228 x0 x1 Q H) : T PP 228 [x0, x1] H Q :=
  T_of_eq eok foll .n Tryz.func228 (by kernel_rfl) (by kernel_rfl) (by kernel_rfl) h
/-- (*escutcheon/table.Table).Paths$1 -/
def sh254 (x0 x1 : Value) (Q : Value → Heap → Prop) (H : Heap) : Prop :=
 ev (ld1 H x1) fun v3 =>
 T PP 98 [v3] H fun v4 H5 =>
 ev (lenS v4) fun v6 =>
 ∀ I7 : List Value → Heap → Prop, (∀ H8, ∀ x9, ∀ x10, ∀ x11, ∀ x12, 
 (ev (intV .lss x12 x11) fun v13 =>
 Br v13 (
 ev (ixS 6 x10 x12) fun v14 =>
 ev (ldn 6 H8 v14) fun v15 =>
 alW 138 [(.int .i64 0), (.int .i64 0), (.int .i64 0), (.int .i64 0), (.int .i64 0), (.pointer none)] H8 fun v16 H17 =>
 ev (sto 6 H17 v16 v15) fun H18 =>
 ev (fldA 0 v16) fun v19 =>
 ev (ldn 5 H18 v19) fun v20 =>
 clW PP x9 [v20] H18 fun v21 H22 =>
 ev (unV .not v21) fun v23 =>
 Br v23 (
 Q (.tuple #[]) H22) (
 ev (intV .add x12 (.int .i64 1)) fun v24 =>
 I7 [x9, x10, x11, v24] H22)) (
 Q (.tuple #[]) H8)) → I7 [x9, x10, x11, x12] H8) →
 I7 [x0, v4, v6, (.int .i64 0)] H5
theorem T254 {x0 x1 : Value} {Q : Value → Heap → Prop} {H : Heap} (h : sh254 x0 x1 Q H) : T PP 254 [x0, x1] H Q :=
  T_of_eq eok foll (.s .n (.k (.l [0, 6, 7, 8] .n))) Tryz.func254 (by kernel_rfl) (by kernel_rfl) (by kernel_rfl) h
/-- slices.Clone[[]escutcheon/api.Hold,escutcheon/api.Hold] -/
def sh255 (x0 : Value) (Q : Value → Heap → Prop) (H : Heap) : Prop :=
 ev (notB false (eqS x0 (.slice none 0 0))) fun v2 =>
 Br v2 (
 Q (.slice none 0 0) H) (
 ev (bldL (zRow 0 [(.int .i64 0), (.int .i64 0)]) []) fun l3 =>
 nsW 121 0 0 l3 H fun v4 H5 =>
 appW PP 76 76 v4 x0 H5 fun v6 H7 =>
 Q v6 H7)
theorem T255 {x0 : Value} {Q : Value → Heap → Prop} {H : Heap} (h : sh255 x0 Q H) : T PP 255 [x0] H Q :=
  T_of_eq eok foll .n Tryz.func255 (by kernel_rfl) (by kernel_rfl) (by kernel_rfl) h
/-- (*escutcheon/bucket.Map).Get -/
def sh256 (x0 x1 : Value) (Q : Value → Heap → Prop) (H : Heap) : Prop :=
 T PP 260 [x0, x1] H fun v3 H4 =>
 ev (extrV 0 v3) fun v5 =>
 ev (extrV 1 v3) fun v6 =>
 ev (intV .lss v6 (.int .i64 0)) fun v7 =>
 Br v7 (
 Q (.tuple #[(.int .i64 0), (.bool false)]) H4) (
 ev (nilV x0) fun v8 =>
 ev (fldA 0 v8) fun v9 =>
 ev (ld1 H4 v9) fun v10 =>
 ev (ixS 1 v10 v5) fun v11 =>
 ev (ld1 H4 v11) fun v12 =>
 ev (ixS 2 v12 v6) fun v13 =>
 ev (fldA 1 v13) fun v14 =>
 ev (ld1 H4 v14) fun v15 =>
 Q (.tuple #[v15, (.bool true)]) H4)
theorem T256 {x0 x1 : Value} {Q : Value → Heap → Prop} {H : Heap} (h : sh256 x0 x1 Q H) : T PP 256 [x0, x1] H Q :=
  T_of_eq eok foll .n Tryz.func256 (by kernel_rfl) (by kernel_rfl) (by kernel_rfl) h
/-- (*escutcheon/arena.Arena[escutcheon/table.head]).Get -/
def sh257 (x0 x1 : Value) (Q : Value → Heap → Prop) (H : Heap) : Prop :=
 alW 138 [(.int .i64 0), (.int .i64 0), (.int .i64 0), (.int .i64 0), (.int .i64 0), (.pointer none)] H fun v3 H4 =>
 T PP 354 [x0, x1] H4 fun v5 H6 =>
 ev (unV .not v5) fun v7 =>
 Br v7 (
 alW 138 [(.int .i64 0), (.int .i64 0), (.int .i64 0), (.int .i64 0), (.int .i64 0), (.pointer none)] H6 fun v8 H9 =>
 ev (ldn 6 H9 v8) fun v10 =>
 ev (sto 6 H9 v3 v10) fun H11 =>
 ev (ldn 6 H11 v3) fun v12 =>
 Q (.tuple #[v12, (.bool false)]) H11) (
 ev (nilV x0) fun v13 =>
 ev (fldA 0 v13) fun v14 =>
 ev (ld1 H6 v14) fun v15 =>
 ev (ixS 8 v15 x1) fun v16 =>
 ev (fldA 0 v16) fun v17 =>
 ev (ldn 6 H6 v17) fun v18 =>
 ev (sto 6 H6 v3 v18) fun H19 =>
 ev (ldn 6 H19 v3) fun v20 =>
 Q (.tuple #[v20, (.bool true)]) H19)
theorem T257 {x0 x1 : Value} {Q : Value → Heap → Prop} {H : Heap} (h : sh257 x0 x1 Q H) : T PP 257 [x0, x1] H Q :=
  T_of_eq eok foll .n Tryz.func257 (by kernel_rfl) (by kernel_rfl) (by kernel_rfl) h
/-- (*escutcheon/queue.Queue).Size -/
def sh258 (x0 : Value) (Q : Value → Heap → Prop) (H : Heap) : Prop :=
 ev (notB false (eqP x0 (.pointer none))) fun v2 =>
 Br v2 (
 Q (.int .i64 0) H) (
 ev (nilV x0) fun v3 =>
 ev (fldA 0 v3) fun v4 =>
 ev (ld1 H v4) fun v5 =>
 ev (lenS v5) fun v6 =>
 ev (nilV x0) fun v7 =>
 ev (fldA 1 v7) fun v8 =>
 ev (ld1 H v8) fun v9 =>
 ev (lenS v9) fun v10 =>
 ev (intV .add v6 v10) fun v11 =>
 Q v11 H)
theorem T258 {x0 : Value} {Q : Value → Heap → Prop} {H : Heap} (h : sh258 x0 Q H) : T PP 258 [x0] H Q :=
  T_of_eq eok foll .n Tryz.func258 (by kernel_rfl) (by kernel_rfl) (by kernel_rfl) h
/-- (*escutcheon/bucket.Map).ok -/
def sh259 (x0 : Value) (Q : Value → Heap → Prop) (H : Heap) : Prop :=
 ev (notB true (eqP x0 (.pointer none))) fun v2 =>
 Br v2 (
 ev (nilV x0) fun v3 =>
 ev (fldA 0 v3) fun v4 =>
 ev (ld1 H v4) fun v5 =>
 ev (lenS v5) fun v6 =>
 ev (intV .gtr v6 (.int .i64 0)) fun v7 =>
 Q v7 H) (
 Q (.bool false) H)
theorem T259 {x0 : Value} {Q : Value → Heap → Prop} {H : Heap} (h : sh259 x0 Q H) : T PP 259 [x0] H Q :=
  T_of_eq eok foll .n Tryz.func259 (by kernel_rfl) (by kernel_rfl) (by kernel_rfl) h
/-- (*escutcheon/bucket.Map).find -/
def sh260 (x0 x1 : Value) (Q : Value → Heap → Prop) (H : Heap) : Prop :=
 ∀ J3 : Nat → List Value → Heap → Prop, (∀ H4, ∀ x5, ∀ x6, ∀ x7, ∀ x8, 
 (ev (nilV x5) fun v9 =>
 ev (fldA 0 v9) fun v10 =>
 ev (ld1 H4 v10) fun v11 =>
 ev (ixS 1 v11 x7) fun v12 =>
 ev (ld1 H4 v12) fun v13 =>
 ev (lenS v13) fun v14 =>
 ev (intV .eql x8 v14) fun v15 =>
 Br v15 (
 Q (.tuple #[x7, (.int .i64 (-1))]) H4) (
 ev (nilV x5) fun v16 =>
 ev (fldA 0 v16) fun v17 =>
 ev (ld1 H4 v17) fun v18 =>
 ev (ixS 1 v18 x7) fun v19 =>
 ev (ld1 H4 v19) fun v20 =>
 ev (ixS 2 v20 x8) fun v21 =>
 ev (fldA 0 v21) fun v22 =>
 ev (ld1 H4 v22) fun v23 =>
 ev (intV .neq v23 x6) fun v24 =>
 Br v24 (
 ev (intV .add x8 (.int .i64 1)) fun v25 =>
 J3 0 [x5, x6, x7, v25] H4) (
 Q (.tuple #[x7, x8]) H4))) → J3 0 [x5, x6, x7, x8] H4) →
 T PP 355 [x0, x1] H fun v26 H27 =>
 T PP 259 [x0] H27 fun v28 H29 =>
 ev (unV .not v28) fun v30 =>
 Br v30 (
 Q (.tuple #[v26, (.int .i64 (-1))]) H29) (
 J3 0 [x0, x1, v26, (.int .i64 0)] H29)
theorem T260 {x0 x1 : Value} {Q : Value → Heap → Prop} {H : Heap} (h : sh260 x0 x1 Q H) : T PP 260 [x0, x1] H Q :=
  T_of_eq eok foll (.s .n (.g [(0, [0, 1, 6, 7])] (.s .n (.s .n (.s .n .n))))) Tryz.func260 (by kernel_rfl) (by kernel_rfl) (by kernel_rfl) h
/-- (*escutcheon/bucket.Map).part -/
def sh261 (x0 x1 : Value) (Q : Value → Heap → Prop) (H : Heap) : Prop :=
 ev (nilV x0) fun v3 =>
 ev (fldA 0 v3) fun v4 =>
 ev (ld1 H v4) fun v5 =>
 ev (ixS 1 v5 x1) fun v6 =>
 ev (ld1 H v6) fun v7 =>
 ev (nilV x0) fun v8 =>
 ev (fldA 0 v8) fun v9 =>
 ev (ld1 H v9) fun v10 =>
 ev (ixS 1 v10 x1) fun v11 =>
 ev (sto 1 H v11 (.slice none 0 0)) fun H12 =>
 ev (lenS v7) fun v13 =>
 ∀ I14 : List Value → Heap → Prop, (∀ H15, ∀ x16, ∀ x17, ∀ x18, ∀ x19, 
 (ev (intV .lss x19 x18) fun v20 =>
 Br v20 (
 ev (ixS 2 x17 x19) fun v21 =>
 ev (ldn 2 H15 v21) fun v22 =>
 alW 314 [(.int .u64 0), (.int .i64 0)] H15 fun v23 H24 =>
 ev (sto 2 H24 v23 v22) fun H25 =>
 ev (fldA 0 v23) fun v26 =>
 ev (ld1 H25 v26) fun v27 =>
 T PP 355 [x16, v27] H25 fun v28 H29 =>
 ev (nilV x16) fun v30 =>
 ev (fldA 0 v30) fun v31 =>
 ev (nilV x16) fun v32 =>
 ev (fldA 0 v32) fun v33 =>
 ev (ld1 H29 v33) fun v34 =>
 ev (ixS 1 v34 v28) fun v35 =>
 ev (ld1 H29 v35) fun v36 =>
 ev (ldn 2 H29 v23) fun v37 =>
 ev (ld1 H29 v31) fun v38 =>
 ev (bldL (zRow 1 [(.int .u64 0), (.int .i64 0)]) [(0, 2, v37)]) fun l39 =>
 nsW 314 1 1 l39 H29 fun v40 H41 =>
 ev (ld1 H41 v31) fun v42 =>
 v42 = v38 ∧
 appW PP 315 315 v36 v40 H41 fun v43 H44 =>
 ev (ld1 H44 v31) fun v45 =>
 v45 = v38 ∧
 ev (ixS 1 v38 v28) fun v46 =>
 ev (sto 1 H44 v46 v43) fun H47 =>
 ev (intV .add x19 (.int .i64 1)) fun v48 =>
 I14 [x16, x17, x18, v48] H47) (
 Q (.tuple #[]) H15)) → I14 [x16, x17, x18, x19] H15) →
 I14 [x0, v7, v13, (.int .i64 0)] H12
theorem T261 {x0 x1 : Value} {Q : Value → Heap → Prop} {H : Heap} (h : sh261 x0 x1 Q H) : T PP 261 [x0, x1] H Q :=
  T_of_eq eok foll (.s .n (.s .n (.s .n (.k (.l [0, 21, 22, 23] .n))))) Tryz.func261 (by kernel_rfl) (by kernel_rfl) (by kernel_rfl) h
/-- escutcheon/bucket.power -/
def sh262 (x0 : Value) (Q : Value → Heap → Prop) (H : Heap) : Prop :=
 ∀ I2 : List Value → Heap → Prop, (∀ H3, ∀ x4, ∀ x5, 
 (ev (intV .mul (.int .u64 2) x5) fun v6 =>
 ev (convV .u64 x4) fun v7 =>
 ev (intV .leq v6 v7) fun v8 =>
 Br v8 (
 ev (intV .mul x5 (.int .u64 2)) fun v9 =>
 I2 [x4, v9] H3) (
 Q x5 H3)) → I2 [x4, x5] H3) →
 I2 [x0, (.int .u64 1)] H
theorem T262 {x0 : Value} {Q : Value → Heap → Prop} {H : Heap} (h : sh262 x0 Q H) : T PP 262 [x0] H Q :=
  T_of_eq eok foll (.s .n (.s .n (.s (.k (.l [0, 3] .n)) .n))) Tryz.func262 (by kernel_rfl) (by kernel_rfl) (by kernel_rfl) h
/-- escutcheon/request.Check -/
def sh263 (x0 x1 x2 : Value) (Q : Value → Heap → Prop) (H : Heap) : Prop :=
 ∀ K4 : List Value → Heap → Prop, (∀ H5, ∀ x6, 
 (Br x6 (
 Q (.int .i64 1) H5) (
 Q (.int .i64 0) H5)) → K4 [x6] H5) →
 ev (intV .lss x0 (.int .i64 1)) fun v7 =>
 Br v7 (
 K4 [(.bool true)] H) (
 T PP 166 [x1] H fun v8 H9 =>
 ev (unV .not v8) fun v10 =>
 Br v10 (
 K4 [(.bool true)] H9) (
 ev (intV .eql x1 (.int .i64 0)) fun v11 =>
 Br v11 (
 K4 [(.bool true)] H9) (
 ev (intV .lss x2 (.int .i64 0)) fun v12 =>
 Br v12 (
 K4 [(.bool true)] H9) (
 ev (intV .gtr x2 (.int .i64 2)) fun v13 =>
 K4 [v13] H9))))
theorem T263 {x0 x1 x2 : Value} {Q : Value → Heap → Prop} {H : Heap} (h : sh263 x0 x1 x2 Q H) : T PP 263 [x0, x1, x2] H Q :=
  T_of_eq eok foll (.s .n (.s (.j [25] .n .n) .n)) Tryz.func263 (by kernel_rfl) (by kernel_rfl) (by kernel_rfl) h
/-- escutcheon/request.Target -/
def sh264 (x0 x1 : Value) (Q : Value → Heap → Prop) (H : Heap) : Prop :=
 T PP 168 [x0, x1] H fun v3 H4 =>
 T PP 212 [v3, x0] H4 fun v5 H6 =>
 Br v5 (
 T PP 212 [x0, v3] H6 fun v7 H8 =>
 ev (unV .not v7) fun v9 =>
 Q (.tuple #[v3, v9]) H8) (
 Q (.tuple #[v3, (.bool false)]) H6)
theorem T264 {x0 x1 : Value} {Q : Value → Heap → Prop} {H : Heap} (h : sh264 x0 x1 Q H) : T PP 264 [x0, x1] H Q :=
  T_of_eq eok foll .n Tryz.func264 (by kernel_rfl) (by kernel_rfl) (by kernel_rfl) h
/-- (*escutcheon/queue.Queue).now -/
def sh265 (x0 x1 x2 x3 : Value) (Q : Value → Heap → Prop) (H : Heap) : Prop :=
 ev (nilV x0) fun v5 =>
 ev (fldA 1 v5) fun v6 =>
 ev (ld1 H v6) fun v7 =>
 ∀ K8 : List Value → Heap → Prop, (∀ H9, ∀ x10, ∀ x11, ∀ x12, ∀ x13, 
 (ev (lenS x13) fun v14 =>
 ev (intV .eql v14 (.int .i64 0)) fun v15 =>
 Br v15 (
 ev (nilV x10) fun v16 =>
 ev (fldA 0 v16) fun v17 =>
 ev (ld1 H9 v17) fun v18 =>
 T PP 357 [v18, x11, x12] H9 fun v19 H20 =>
 Q v19 H20) (
 Q (.bool false) H9)) → K8 [x10, x11, x12, x13] H9) →
 Br x3 (
 T PP 356 [v7, (.bool true)] H fun v21 H22 =>
 ev (slV 4 v7 none (some v21) none) fun v23 =>
 K8 [x0, x1, x2, v23] H22) (
 K8 [x0, x1, x2, v7] H)
theorem T265 {x0 x1 x2 x3 : Value} {Q : Value → Heap → Prop} {H : Heap} (h : sh265 x0 x1 x2 x3 Q H) : T PP 265 [x0, x1, x2, x3] H Q :=
  T_of_eq eok foll (.s .n (.s .n (.j [0, 1, 2, 9] .n .n))) Tryz.func265 (by kernel_rfl) (by kernel_rfl) (by kernel_rfl) h
/-- escutcheon/group.Set -/
def sh266 (x0 x1 x2 : Value) (Q : Value → Heap → Prop) (H : Heap) : Prop :=
 T PP 255 [x0] H fun v4 H5 =>
 T PP 321 [x0, x1] H5 fun v6 H7 =>
 ev (intV .lss v6 (.int .i64 0)) fun v8 =>
 Br v8 (
 ev (bldV [(.int .i64 0), (.int .i64 0)] [(0, 1, x1), (1, 1, x2)]) fun v9 =>
 ev (bldL (zRow 1 [(.int .i64 0), (.int .i64 0)]) [(0, 2, v9)]) fun l10 =>
 nsW 121 1 1 l10 H7 fun v11 H12 =>
 appW PP 76 76 v4 v11 H12 fun v13 H14 =>
 Q v13 H14) (
 ev (ixS 2 v4 v6) fun v15 =>
 ev (fldA 1 v15) fun v16 =>
 ev (sto 1 H7 v16 x2) fun H17 =>
 Q v4 H17)
theorem T266 {x0 x1 x2 : Value} {Q : Value → Heap → Prop} {H : Heap} (h : sh266 x0 x1 x2 Q H) : T PP 266 [x0, x1, x2] H Q :=
  T_of_eq eok foll .n Tryz.func266 (by kernel_rfl) (by kernel_rfl) (by kernel_rfl) h
/-- escutcheon/request.Insert -/
def sh267 (x0 x1 : Value) (Q : Value → Heap → Prop) (H : Heap) : Prop :=
 alW 48 (Value.cells x1).toList H fun v3 H4 =>
 ev (fldA 2 v3) fun v5 =>
 ev (ld1 H4 v5) fun v6 =>
 ev (ldn 4 H4 v3) fun v7 =>
 ev (bldL (zRow 1 [(.int .i64 0), (.int .i64 0), (.bool false), (.bool false)]) [(0, 4, v7)]) fun _ =>
 T PP 197 [x0] H4 fun v9 H10 =>
 ev (ldn 4 H10 v3) fun v11 =>
 v11 = v7 ∧
 ev (ld1 H10 v5) fun v12 =>
 v12 = v6 ∧
 ev (bldL (zRow 1 [(.int .i64 0), (.int .i64 0), (.bool false), (.bool false)]) [(0, 4, v7)]) fun _ =>
 T PP 356 [x0, v6] H10 fun v14 H15 =>
 ev (ldn 4 H15 v3) fun v16 =>
 v16 = v7 ∧
 ev (bldL (zRow 1 [(.int .i64 0), (.int .i64 0), (.bool false), (.bool false)]) [(0, 4, v7)]) fun l17 =>
 nsW 48 1 1 l17 H15 fun v18 H19 =>
 T PP 358 [v9, v14, v18] H19 fun v20 H21 =>
 Q v20 H21
theorem T267 {x0 x1 : Value} {Q : Value → Heap → Prop} {H : Heap} (h : sh267 x0 x1 Q H) : T PP 267 [x0, x1] H Q :=
  T_of_eq eok foll .n Tryz.func267 (by kernel_rfl) (by kernel_rfl) (by kernel_rfl) h
/-- escutcheon/mode.Of -/
def sh276 (x0 : Value) (Q : Value → Heap → Prop) (H : Heap) : Prop :=
 T PP 322 [] H fun v2 H3 =>
 ∀ I4 : List Value → Heap → Prop, (∀ H5, ∀ x6, ∀ x7, ∀ x8, ∀ x9, 
 (ev (intV .lss x9 (.int .i64 7)) fun v10 =>
 Br v10 (
 ∀ K11 : List Value → Heap → Prop, (∀ H12, ∀ x13, ∀ x14, ∀ x15, ∀ x16, 
 (ev (intV .add x16 (.int .i64 1)) fun v17 =>
 I4 [x13, x14, x15, v17] H12) → K11 [x13, x14, x15, x16] H12) →
 ev (ixA 7 false 1 x8 x9) fun v18 =>
 ∀ K19 : List Value → Heap → Prop, (∀ H20, ∀ x21, ∀ x22, ∀ x23, ∀ x24, ∀ x25, ∀ x26, 
 (Br x26 (
 K11 [x21, x23, x24, x25] H20) (
 K11 [x21, x22, x24, x25] H20)) → K19 [x21, x22, x23, x24, x25, x26] H20) →
 T PP 326 [x6, v18] H5 fun v27 H28 =>
 Br v27 (
 T PP 206 [x7] H28 fun v29 H30 =>
 T PP 360 [v18, v29] H30 fun v31 H32 =>
 K19 [x6, x7, x9, x8, x9, v31] H32) (
 K19 [x6, x7, x9, x8, x9, (.bool false)] H28)) (
 Q x7 H5)) → I4 [x6, x7, x8, x9] H5) →
 I4 [x0, (.int .i64 6), v2, (.int .i64 0)] H3
theorem T276 {x0 : Value} {Q : Value → Heap → Prop} {H : Heap} (h : sh276 x0 Q H) : T PP 276 [x0] H Q :=
  T_of_eq eok foll (.s .n (.s .n (.s (.s .n (.k (.l [0, 3, 6, 7] (.s .n (.s .n (.j [0, 3, 6, 7] (.k (.s .n (.j [0, 3, 4, 6, 7, 19] .n .n))) .n)))))) .n))) Tryz.func276 (by kernel_rfl) (by kernel_rfl) (by kernel_rfl) h
/-- slices.insertionSortCmpFunc[escutcheon/api.Edge] -/
def sh293 (x0 x1 x2 x3 : Value) (Q : Value → Heap → Prop) (H : Heap) : Prop :=
 ev (intV .add x1 (.int .i64 1)) fun v5 =>
 ∀ I6 : List Value → Heap → Prop, (∀ H7, ∀ x8, ∀ x9, ∀ x10, ∀ x11, ∀ x12, 
 (ev (intV .lss x12 x10) fun v13 =>
 Br v13 (
 ∀ I14 : List Value → Heap → Prop, (∀ H15, ∀ x16, ∀ x17, ∀ x18, ∀ x19, ∀ x20, ∀ x21, 
 (∀ K22 : List Value → Heap → Prop, (∀ H23, ∀ x24, ∀ x25, ∀ x26, ∀ x27, ∀ x28, ∀ x29, ∀ x30, 
 (Br x30 (
 ev (intV .sub x29 (.int .i64 1)) fun v31 =>
 ev (intV .sub x29 (.int .i64 1)) fun v32 =>
 ev (ixS 2 x24 v32) fun v33 =>
 ev (ldn 2 H23 v33) fun v34 =>
 ev (ixS 2 x24 x29) fun v35 =>
 ev (ldn 2 H23 v35) fun v36 =>
 ev (ixS 2 x24 x29) fun v37 =>
 ev (sto 2 H23 v37 v34) fun H38 =>
 ev (ixS 2 x24 v31) fun v39 =>
 ev (sto 2 H38 v39 v36) fun H40 =>
 ev (intV .sub x29 (.int .i64 1)) fun v41 =>
 I14 [x24, x25, x26, x27, x28, v41] H40) (
 ev (intV .add x28 (.int .i64 1)) fun v42 =>
 I6 [x24, x25, x26, x27, v42] H23)) → K22 [x24, x25, x26, x27, x28, x29, x30] H23) →
 ev (intV .gtr x21 x17) fun v43 =>
 Br v43 (
 ev (ixS 2 x16 x21) fun v44 =>
 ev (ldn 2 H15 v44) fun v45 =>
 ev (intV .sub x21 (.int .i64 1)) fun v46 =>
 ev (ixS 2 x16 v46) fun v47 =>
 ev (ldn 2 H15 v47) fun v48 =>
 clW PP x19 [v45, v48] H15 fun v49 H50 =>
 ev (intV .lss v49 (.int .i64 0)) fun v51 =>
 K22 [x16, x17, x18, x19, x20, x21, v51] H50) (
 K22 [x16, x17, x18, x19, x20, x21, (.bool false)] H15)) → I14 [x16, x17, x18, x19, x20, x21] H15) →
 I14 [x8, x9, x10, x11, x12, x12] H7) (
 Q (.tuple #[]) H7)) → I6 [x8, x9, x10, x11, x12] H7) →
 I6 [x0, x1, x2, x3, v5] H
theorem T293 {x0 x1 x2 x3 : Value} {Q : Value → Heap → Prop} {H : Heap} (h : sh293 x0 x1 x2 x3 Q H) : T PP 293 [x0, x1, x2, x3] H Q :=
  T_of_eq eok foll (.s .n (.k (.l [0, 1, 2, 3, 8] (.s .n (.s (.k (.s .n (.k (.l [0, 1, 2, 3, 8, 9] (.s (.j [0, 1, 2, 3, 8, 9, 34] .n .n) .n))))) .n))))) Tryz.func293 (by kernel_rfl) (by kernel_rfl) (by kernel_rfl) h
/-- slices.heapSortCmpFunc[escutcheon/api.Edge] -/
def sh294 (x0 x1 x2 x3 : Value) (Q : Value → Heap → Prop) (H : Heap) : Prop :=
 ev (intV .sub x2 x1) fun v5 =>
 ev (intV .sub v5 (.int .i64 1)) fun v6 =>
 ev (intV .quo v6 (.int .i64 2)) fun v7 =>
 ∀ I8 : List Value → Heap → Prop, (∀ H9, ∀ x10, ∀ x11, ∀ x12, ∀ x13, ∀ x14, ∀ x15, 
 (ev (intV .geq x15 (.int .i64 0)) fun v16 =>
 Br v16 (
 T PP 377 [x10, x15, x14, x12, x11] H9 fun _ H18 =>
 ev (intV .sub x15 (.int .i64 1)) fun v19 =>
 I8 [x10, x11, x12, x13, x14, v19] H18) (
 ev (intV .sub x14 (.int .i64 1)) fun v20 =>
 ∀ I21 : List Value → Heap → Prop, (∀ H22, ∀ x23, ∀ x24, ∀ x25, ∀ x26, ∀ x27, 
 (ev (intV .geq x27 (.int .i64 0)) fun v28 =>
 Br v28 (
 ev (intV .add x25 x27) fun v29 =>
 ev (intV .add x25 x27) fun v30 =>
 ev (ixS 2 x23 v30) fun v31 =>
 ev (ldn 2 H22 v31) fun v32 =>
 ev (ixS 2 x23 x25) fun v33 =>
 ev (ldn 2 H22 v33) fun v34 =>
 ev (ixS 2 x23 x25) fun v35 =>
 ev (sto 2 H22 v35 v32) fun H36 =>
 ev (ixS 2 x23 v29) fun v37 =>
 ev (sto 2 H36 v37 v34) fun H38 =>
 T PP 377 [x23, x26, x27, x25, x24] H38 fun _ H40 =>
 ev (intV .sub x27 (.int .i64 1)) fun v41 =>
 I21 [x23, x24, x25, x26, v41] H40) (
 Q (.tuple #[]) H22)) → I21 [x23, x24, x25, x26, x27] H22) →
 I21 [x10, x11, x12, x13, v20] H9)) → I8 [x10, x11, x12, x13, x14, x15] H9) →
 I8 [x0, x3, x1, (.int .i64 0), v5, v7] H
theorem T294 {x0 x1 x2 x3 : Value} {Q : Value → Heap → Prop} {H : Heap} (h : sh294 x0 x1 x2 x3 Q H) : T PP 294 [x0, x1, x2, x3] H Q :=
  T_of_eq eok foll (.s .n (.s .n (.s .n (.s (.s .n (.k (.l [0, 3, 8, 9, 10, 11] .n))) (.s .n (.k (.l [0, 3, 8, 9, 12] .n))))))) Tryz.func294 (by kernel_rfl) (by kernel_rfl) (by kernel_rfl) h
/-- slices.breakPatternsCmpFunc[escutcheon/api.Edge] -/
def sh295 (x0 x1 x2 _ : Value) (Q : Value → Heap → Prop) (H : Heap) : Prop :=
 ev (intV .sub x2 x1) fun v5 =>
 ev (intV .geq v5 (.int .i64 8)) fun v6 =>
 Br v6 (
 ev (convV .u64 v5) fun v7 =>
 alW 410 [(.int .u64 0)] H fun v8 H9 =>
 ev (sto 1 H9 v8 v7) fun H10 =>
 T PP 378 [v5] H10 fun v11 H12 =>
 ev (intV .quo v5 (.int .i64 4)) fun v13 =>
 ev (intV .mul v13 (.int .i64 2)) fun v14 =>
 ev (intV .add x1 v14) fun v15 =>
 ev (intV .sub v15 (.int .i64 1)) fun v16 =>
 ∀ I17 : List Value → Heap → Prop, (∀ H18, ∀ x19, ∀ x20, ∀ x21, ∀ x22, ∀ x23, ∀ x24, 
 (ev (intV .quo x21 (.int .i64 4)) fun v25 =>
 ev (intV .mul v25 (.int .i64 2)) fun v26 =>
 ev (intV .add x20 v26) fun v27 =>
 ev (intV .add v27 (.int .i64 1)) fun v28 =>
 ev (intV .leq x24 v28) fun v29 =>
 Br v29 (
 T PP 379 [x22] H18 fun v30 H31 =>
 ev (intV .sub x23 (.int .u64 1)) fun v32 =>
 ev (intV .and v30 v32) fun v33 =>
 ev (convV .i64 v33) fun v34 =>
 ∀ K35 : List Value → Heap → Prop, (∀ H36, ∀ x37, ∀ x38, ∀ x39, ∀ x40, ∀ x41, ∀ x42, ∀ x43, 
 (ev (intV .add x38 x43) fun v44 =>
 ev (intV .add x38 x43) fun v45 =>
 ev (ixS 2 x37 v45) fun v46 =>
 ev (ldn 2 H36 v46) fun v47 =>
 ev (ixS 2 x37 x42) fun v48 =>
 ev (ldn 2 H36 v48) fun v49 =>
 ev (ixS 2 x37 x42) fun v50 =>
 ev (sto 2 H36 v50 v47) fun H51 =>
 ev (ixS 2 x37 v44) fun v52 =>
 ev (sto 2 H51 v52 v49) fun H53 =>
 ev (intV .add x42 (.int .i64 1)) fun v54 =>
 I17 [x37, x38, x39, x40, x41, v54] H53) → K35 [x37, x38, x39, x40, x41, x42, x43] H36) →
 ev (intV .geq v34 x21) fun v55 =>
 Br v55 (
 ev (intV .sub v34 x21) fun v56 =>
 K35 [x19, x20, x21, x22, x23, x24, v56] H31) (
 K35 [x19, x20, x21, x22, x23, x24, v34] H31)) (
 Q (.tuple #[]) H18)) → I17 [x19, x20, x21, x22, x23, x24] H18) →
 I17 [x0, x1, v5, v8, v11, v16] H12) (
 Q (.tuple #[]) H)
theorem T295 {x0 x1 x2 x3 : Value} {Q : Value → Heap → Prop} {H : Heap} (h : sh295 x0 x1 x2 x3 Q H) : T PP 295 [x0, x1, x2, x3] H Q :=
  T_of_eq eok foll (.s .n (.s .n (.c (.s .n (.s .n (.s .n (.k (.l [0, 1, 8, 9, 10, 11] (.s .n (.s (.k (.s .n (.j [0, 1, 8, 9, 10, 11, 12] .n .n))) .n))))))) .n))) Tryz.func295 (by kernel_rfl) (by kernel_rfl) (by kernel_rfl) h
/-- slices.choosePivotCmpFunc[escutcheon/api.Edge] -/
def sh296 (x0 x1 x2 x3 : Value) (Q : Value → Heap → Prop) (H : Heap) : Prop :=
 ev (intV .sub x2 x1) fun v5 =>
 alW 3 [(.int .i64 0)] H fun v6 H7 =>
 ev (intV .quo v5 (.int .i64 4)) fun v8 =>
 ev (intV .mul v8 (.int .i64 1)) fun v9 =>
 ev (intV .add x1 v9) fun v10 =>
 ev (intV .quo v5 (.int .i64 4)) fun v11 =>
 ev (intV .mul v11 (.int .i64 2)) fun v12 =>
 ev (intV .add x1 v12) fun v13 =>
 ev (intV .quo v5 (.int .i64 4)) fun v14 =>
 ev (intV .mul v14 (.int .i64 3)) fun v15 =>
 ev (intV .add x1 v15) fun v16 =>
 ∀ K17 : List Value → Heap → Prop, (∀ H18, ∀ x19, ∀ x20, 
 (ev (ld1 H18 x19) fun v21 =>
 ev (intV .eql v21 (.int .i64 0)) fun v22 =>
 Br v22 (
 Q (.tuple #[x20, (.int .i64 1)]) H18) (
 ev (intV .eql v21 (.int .i64 12)) fun v23 =>
 Br v23 (
 Q (.tuple #[x20, (.int .i64 2)]) H18) (
 Q (.tuple #[x20, (.int .i64 0)]) H18))) → K17 [x19, x20] H18) →
 ev (intV .geq v5 (.int .i64 8)) fun v24 =>
 Br v24 (
 ∀ K25 : List Value → Heap → Prop, (∀ H26, ∀ x27, ∀ x28, ∀ x29, ∀ x30, ∀ x31, ∀ x32, 
 (T PP 381 [x27, x30, x31, x32, x29, x28] H26 fun v33 H34 =>
 K17 [x29, v33] H34) → K25 [x27, x28, x29, x30, x31, x32] H26) →
 ev (intV .geq v5 (.int .i64 50)) fun v35 =>
 Br v35 (
 T PP 380 [x0, v10, v6, x3] H7 fun v36 H37 =>
 T PP 380 [x0, v13, v6, x3] H37 fun v38 H39 =>
 T PP 380 [x0, v16, v6, x3] H39 fun v40 H41 =>
 K25 [x0, x3, v6, v36, v38, v40] H41) (
 K25 [x0, x3, v6, v10, v13, v16] H7)) (
 K17 [v6, v13] H7)
theorem T296 {x0 x1 x2 x3 : Value} {Q : Value → Heap → Prop} {H : Heap} (h : sh296 x0 x1 x2 x3 Q H) : T PP 296 [x0, x1, x2, x3] H Q :=
  T_of_eq eok foll (.s .n (.s .n (.s .n (.s .n (.s .n (.s .n (.j [11, 13] (.s .n (.c (.j [0, 3, 11, 12, 13, 14] .n .n) .n)) .n))))))) Tryz.func296 (by kernel_rfl) (by kernel_rfl) (by kernel_rfl) h
/-- slices.reverseRangeCmpFunc[escutcheon/api.Edge] -/
def sh297 (x0 x1 x2 _ : Value) (Q : Value → Heap → Prop) (H : Heap) : Prop :=
 ev (intV .sub x2 (.int .i64 1)) fun v5 =>
 ∀ I6 : List Value → Heap → Prop, (∀ H7, ∀ x8, ∀ x9, ∀ x10, 
 (ev (intV .lss x9 x10) fun v11 =>
 Br v11 (
 ev (ixS 2 x8 x10) fun v12 =>
 ev (ldn 2 H7 v12) fun v13 =>
 ev (ixS 2 x8 x9) fun v14 =>
 ev (ldn 2 H7 v14) fun v15 =>
 ev (ixS 2 x8 x9) fun v16 =>
 ev (sto 2 H7 v16 v13) fun H17 =>
 ev (ixS 2 x8 x10) fun v18 =>
 ev (sto 2 H17 v18 v15) fun H19 =>
 ev (intV .add x9 (.int .i64 1)) fun v20 =>
 ev (intV .sub x10 (.int .i64 1)) fun v21 =>
 I6 [x8, v20, v21] H19) (
 Q (.tuple #[]) H7)) → I6 [x8, x9, x10] H7) →
 I6 [x0, x1, v5] H
theorem T297 {x0 x1 x2 x3 : Value} {Q : Value → Heap → Prop} {H : Heap} (h : sh297 x0 x1 x2 x3 Q H) : T PP 297 [x0, x1, x2, x3] H Q :=
  T_of_eq eok foll (.s .n (.s .n (.k (.l [0, 8, 9] .n)))) Tryz.func297 (by kernel_rfl) (by kernel_rfl) (by kernel_rfl) h
/-- slices.partialInsertionSortCmpFunc[escutcheon/api.Edge] -/
def sh298 (x0 x1 x2 x3 : Value) (Q : Value → Heap → Prop) (H : Heap) : Prop :=
 ev (intV .add x1 (.int .i64 1)) fun v5 =>
 ∀ I6 : List Value → Heap → Prop, (∀ H7, ∀ x8, ∀ x9, ∀ x10, ∀ x11, ∀ x12, ∀ x13, 
 (ev (intV .lss x13 (.int .i64 5)) fun v14 =>
 Br v14 (
 ∀ K15 : List Value → Heap → Prop, (∀ H16, ∀ x17, ∀ x18, ∀ x19, ∀ x20, ∀ x21, ∀ x22, 
 (ev (intV .add x22 (.int .i64 1)) fun v23 =>
 I6 [x17, x18, x19, x20, x21, v23] H16) → K15 [x17, x18, x19, x20, x21, x22] H16) →
 ∀ I24 : List Value → Heap → Prop, (∀ H25, ∀ x26, ∀ x27, ∀ x28, ∀ x29, ∀ x30, ∀ x31, 
 (∀ K32 : List Value → Heap → Prop, (∀ H33, ∀ x34, ∀ x35, ∀ x36, ∀ x37, ∀ x38, ∀ x39, ∀ x40, 
 (Br x40 (
 ev (intV .add x38 (.int .i64 1)) fun v41 =>
 I24 [x34, x35, x36, x37, v41, x39] H33) (
 ev (intV .eql x38 x36) fun v42 =>
 Br v42 (
 Q (.bool true) H33) (
 ev (intV .sub x36 x35) fun v43 =>
 ev (intV .lss v43 (.int .i64 50)) fun v44 =>
 Br v44 (
 Q (.bool false) H33) (
 ev (intV .sub x38 (.int .i64 1)) fun v45 =>
 ev (intV .sub x38 (.int .i64 1)) fun v46 =>
 ev (ixS 2 x34 v46) fun v47 =>
 ev (ldn 2 H33 v47) fun v48 =>
 ev (ixS 2 x34 x38) fun v49 =>
 ev (ldn 2 H33 v49) fun v50 =>
 ev (ixS 2 x34 x38) fun v51 =>
 ev (sto 2 H33 v51 v48) fun H52 =>
 ev (ixS 2 x34 v45) fun v53 =>
 ev (sto 2 H52 v53 v50) fun H54 =>
 ∀ K55 : List Value → Heap → Prop, (∀ H56, ∀ x57, ∀ x58, ∀ x59, ∀ x60, ∀ x61, ∀ x62, 
 (ev (intV .sub x59 x61) fun v63 =>
 ev (intV .geq v63 (.int .i64 2)) fun v64 =>
 Br v64 (
 ev (intV .add x61 (.int .i64 1)) fun v65 =>
 ∀ I66 : List Value → Heap → Prop, (∀ H67, ∀ x68, ∀ x69, ∀ x70, ∀ x71, ∀ x72, ∀ x73, ∀ x74, 
 (ev (intV .lss x74 x70) fun v75 =>
 Br v75 (
 ev (ixS 2 x68 x74) fun v76 =>
 ev (ldn 2 H67 v76) fun v77 =>
 ev (intV .sub x74 (.int .i64 1)) fun v78 =>
 ev (ixS 2 x68 v78) fun v79 =>
 ev (ldn 2 H67 v79) fun v80 =>
 clW PP x71 [v77, v80] H67 fun v81 H82 =>
 ev (intV .lss v81 (.int .i64 0)) fun v83 =>
 ev (unV .not v83) fun v84 =>
 Br v84 (
 K15 [x68, x69, x70, x71, x72, x73] H82) (
 ev (intV .sub x74 (.int .i64 1)) fun v85 =>
 ev (intV .sub x74 (.int .i64 1)) fun v86 =>
 ev (ixS 2 x68 v86) fun v87 =>
 ev (ldn 2 H82 v87) fun v88 =>
 ev (ixS 2 x68 x74) fun v89 =>
 ev (ldn 2 H82 v89) fun v90 =>
 ev (ixS 2 x68 x74) fun v91 =>
 ev (sto 2 H82 v91 v88) fun H92 =>
 ev (ixS 2 x68 v85) fun v93 =>
 ev (sto 2 H92 v93 v90) fun H94 =>
 ev (intV .add x74 (.int .i64 1)) fun v95 =>
 I66 [x68, x69, x70, x71, x72, x73, v95] H94)) (
 K15 [x68, x69, x70, x71, x72, x73] H67)) → I66 [x68, x69, x70, x71, x72, x73, x74] H67) →
 I66 [x57, x58, x59, x60, x61, x62, v65] H56) (
 K15 [x57, x58, x59, x60, x61, x62] H56)) → K55 [x57, x58, x59, x60, x61, x62] H56) →
 ev (intV .sub x38 x35) fun v96 =>
 ev (intV .geq v96 (.int .i64 2)) fun v97 =>
 Br v97 (
 ev (intV .sub x38 (.int .i64 1)) fun v98 =>
 ∀ I99 : List Value → Heap → Prop, (∀ H100, ∀ x101, ∀ x102, ∀ x103, ∀ x104, ∀ x105, ∀ x106, ∀ x107, 
 (ev (intV .geq x107 (.int .i64 1)) fun v108 =>
 Br v108 (
 ev (ixS 2 x101 x107) fun v109 =>
 ev (ldn 2 H100 v109) fun v110 =>
 ev (intV .sub x107 (.int .i64 1)) fun v111 =>
 ev (ixS 2 x101 v111) fun v112 =>
 ev (ldn 2 H100 v112) fun v113 =>
 clW PP x104 [v110, v113] H100 fun v114 H115 =>
 ev (intV .lss v114 (.int .i64 0)) fun v116 =>
 ev (unV .not v116) fun v117 =>
 Br v117 (
 K55 [x101, x102, x103, x104, x105, x106] H115) (
 ev (intV .sub x107 (.int .i64 1)) fun v118 =>
 ev (intV .sub x107 (.int .i64 1)) fun v119 =>
 ev (ixS 2 x101 v119) fun v120 =>
 ev (ldn 2 H115 v120) fun v121 =>
 ev (ixS 2 x101 x107) fun v122 =>
 ev (ldn 2 H115 v122) fun v123 =>
 ev (ixS 2 x101 x107) fun v124 =>
 ev (sto 2 H115 v124 v121) fun H125 =>
 ev (ixS 2 x101 v118) fun v126 =>
 ev (sto 2 H125 v126 v123) fun H127 =>
 ev (intV .sub x107 (.int .i64 1)) fun v128 =>
 I99 [x101, x102, x103, x104, x105, x106, v128] H127)) (
 K55 [x101, x102, x103, x104, x105, x106] H100)) → I99 [x101, x102, x103, x104, x105, x106, x107] H100) →
 I99 [x34, x35, x36, x37, x38, x39, v98] H54) (
 K55 [x34, x35, x36, x37, x38, x39] H54))))) → K32 [x34, x35, x36, x37, x38, x39, x40] H33) →
 ev (intV .lss x30 x28) fun v129 =>
 Br v129 (
 ev (ixS 2 x26 x30) fun v130 =>
 ev (ldn 2 H25 v130) fun v131 =>
 ev (intV .sub x30 (.int .i64 1)) fun v132 =>
 ev (ixS 2 x26 v132) fun v133 =>
 ev (ldn 2 H25 v133) fun v134 =>
 clW PP x29 [v131, v134] H25 fun v135 H136 =>
 ev (intV .lss v135 (.int .i64 0)) fun v137 =>
 ev (unV .not v137) fun v138 =>
 K32 [x26, x27, x28, x29, x30, x31, v138] H136) (
 K32 [x26, x27, x28, x29, x30, x31, (.bool false)] H25)) → I24 [x26, x27, x28, x29, x30, x31] H25) →
 I24 [x8, x9, x10, x11, x12, x13] H7) (
 Q (.bool false) H7)) → I6 [x8, x9, x10, x11, x12, x13] H7) →
 I6 [x0, x1, x2, x3, v5, (.int .i64 0)] H
theorem T298 {x0 x1 x2 x3 : Value} {Q : Value → Heap → Prop} {H : Heap} (h : sh298 x0 x1 x2 x3 Q H) : T PP 298 [x0, x1, x2, x3] H Q :=
  T_of_eq eok foll (.s .n (.s .n (.s (.s .n (.k (.l [0, 1, 2, 3, 9, 10] (.s .n (.j [0, 1, 2, 3, 9, 10] (.k (.s (.k (.l [0, 1, 2, 3, 9, 10] (.s (.j [0, 1, 2, 3, 9, 10, 36] .n .n) .n))) (.s .n (.s .n (.s .n (.j [0, 1, 2, 3, 9, 10] (.s .n (.c (.s .n (.k (.l [0, 1, 2, 3, 9, 10, 11] .n))) .n)) (.s .n (.c (.s .n (.k (.l [0, 1, 2, 3, 9, 10, 12] .n))) .n)))))))) .n))))) .n))) Tryz.func298 (by kernel_rfl) (by kernel_rfl) (by kernel_rfl) h
/-- slices.partitionEqualCmpFunc[escutcheon/api.Edge] -/
def sh299 (x0 x1 x2 x3 x4 : Value) (Q : Value → Heap → Prop) (H : Heap) : Prop :=
 ev (ixS 2 x0 x3) fun v6 =>
 ev (ldn 2 H v6) fun v7 =>
 ev (ixS 2 x0 x1) fun v8 =>
 ev (ldn 2 H v8) fun v9 =>
 ev (ixS 2 x0 x1) fun v10 =>
 ev (sto 2 H v10 v7) fun H11 =>
 ev (ixS 2 x0 x3) fun v12 =>
 ev (sto 2 H11 v12 v9) fun H13 =>
 ev (intV .add x1 (.int .i64 1)) fun v14 =>
 ev (intV .sub x2 (.int .i64 1)) fun v15 =>
 ∀ I16 : List Value → Heap → Prop, (∀ H17, ∀ x18, ∀ x19, ∀ x20, ∀ x21, ∀ x22, 
 (∀ I23 : List Value → Heap → Prop, (∀ H24, ∀ x25, ∀ x26, ∀ x27, ∀ x28, ∀ x29, 
 (∀ K30 : List Value → Heap → Prop, (∀ H31, ∀ x32, ∀ x33, ∀ x34, ∀ x35, ∀ x36, ∀ x37, 
 (Br x37 (
 ev (intV .add x35 (.int .i64 1)) fun v38 =>
 I23 [x32, x33, x34, v38, x36] H31) (
 ∀ I39 : List Value → Heap → Prop, (∀ H40, ∀ x41, ∀ x42, ∀ x43, ∀ x44, ∀ x45, 
 (∀ K46 : List Value → Heap → Prop, (∀ H47, ∀ x48, ∀ x49, ∀ x50, ∀ x51, ∀ x52, ∀ x53, 
 (Br x53 (
 ev (intV .sub x52 (.int .i64 1)) fun v54 =>
 I39 [x48, x49, x50, x51, v54] H47) (
 ev (intV .gtr x51 x52) fun v55 =>
 Br v55 (
 Q x51 H47) (
 ev (ixS 2 x48 x52) fun v56 =>
 ev (ldn 2 H47 v56) fun v57 =>
 ev (ixS 2 x48 x51) fun v58 =>
 ev (ldn 2 H47 v58) fun v59 =>
 ev (ixS 2 x48 x51) fun v60 =>
 ev (sto 2 H47 v60 v57) fun H61 =>
 ev (ixS 2 x48 x52) fun v62 =>
 ev (sto 2 H61 v62 v59) fun H63 =>
 ev (intV .add x51 (.int .i64 1)) fun v64 =>
 ev (intV .sub x52 (.int .i64 1)) fun v65 =>
 I16 [x48, x49, x50, v64, v65] H63))) → K46 [x48, x49, x50, x51, x52, x53] H47) →
 ev (intV .leq x44 x45) fun v66 =>
 Br v66 (
 ev (ixS 2 x41 x42) fun v67 =>
 ev (ldn 2 H40 v67) fun v68 =>
 ev (ixS 2 x41 x45) fun v69 =>
 ev (ldn 2 H40 v69) fun v70 =>
 clW PP x43 [v68, v70] H40 fun v71 H72 =>
 ev (intV .lss v71 (.int .i64 0)) fun v73 =>
 K46 [x41, x42, x43, x44, x45, v73] H72) (
 K46 [x41, x42, x43, x44, x45, (.bool false)] H40)) → I39 [x41, x42, x43, x44, x45] H40) →
 I39 [x32, x33, x34, x35, x36] H31)) → K30 [x32, x33, x34, x35, x36, x37] H31) →
 ev (intV .leq x28 x29) fun v74 =>
 Br v74 (
 ev (ixS 2 x25 x26) fun v75 =>
 ev (ldn 2 H24 v75) fun v76 =>
 ev (ixS 2 x25 x28) fun v77 =>
 ev (ldn 2 H24 v77) fun v78 =>
 clW PP x27 [v76, v78] H24 fun v79 H80 =>
 ev (intV .lss v79 (.int .i64 0)) fun v81 =>
 ev (unV .not v81) fun v82 =>
 K30 [x25, x26, x27, x28, x29, v82] H80) (
 K30 [x25, x26, x27, x28, x29, (.bool false)] H24)) → I23 [x25, x26, x27, x28, x29] H24) →
 I23 [x18, x19, x20, x21, x22] H17) → I16 [x18, x19, x20, x21, x22] H17) →
 I16 [x0, x1, x4, v14, v15] H13
theorem T299 {x0 x1 x2 x3 x4 : Value} {Q : Value → Heap → Prop} {H : Heap} (h : sh299 x0 x1 x2 x3 x4 Q H) : T PP 299 [x0, x1, x2, x3, x4] H Q :=
  T_of_eq eok foll (.s .n (.s .n (.s .n (.s (.k (.l [0, 1, 4, 11, 12] (.k (.s (.k (.l [0, 1, 4, 11, 12] (.s (.j [0, 1, 4, 11, 12, 47] .n .n) .n))) (.s (.k (.l [0, 1, 4, 11, 12] (.s (.j [0, 1, 4, 11, 12, 65] .n .n) .n))) .n))))) .n)))) Tryz.func299 (by kernel_rfl) (by kernel_rfl) (by kernel_rfl) h
/-- slices.partitionCmpFunc[escutcheon/api.Edge] -/
def sh300 (x0 x1 x2 x3 x4 : Value) (Q : Value → Heap → Prop) (H : Heap) : Prop :=
 ev (ixS 2 x0 x3) fun v6 =>
 ev (ldn 2 H v6) fun v7 =>
 ev (ixS 2 x0 x1) fun v8 =>
 ev (ldn 2 H v8) fun v9 =>
 ev (ixS 2 x0 x1) fun v10 =>
 ev (sto 2 H v10 v7) fun H11 =>
 ev (ixS 2 x0 x3) fun v12 =>
 ev (sto 2 H11 v12 v9) fun H13 =>
 ev (intV .add x1 (.int .i64 1)) fun v14 =>
 ev (intV .sub x2 (.int .i64 1)) fun v15 =>
 ∀ I16 : List Value → Heap → Prop, (∀ H17, ∀ x18, ∀ x19, ∀ x20, ∀ x21, ∀ x22, 
 (∀ K23 : List Value → Heap → Prop, (∀ H24, ∀ x25, ∀ x26, ∀ x27, ∀ x28, ∀ x29, ∀ x30, 
 (Br x30 (
 ev (intV .add x28 (.int .i64 1)) fun v31 =>
 I16 [x25, x26, x27, v31, x29] H24) (
 ∀ I32 : List Value → Heap → Prop, (∀ H33, ∀ x34, ∀ x35, ∀ x36, ∀ x37, ∀ x38, 
 (∀ K39 : List Value → Heap → Prop, (∀ H40, ∀ x41, ∀ x42, ∀ x43, ∀ x44, ∀ x45, ∀ x46, 
 (Br x46 (
 ev (intV .sub x45 (.int .i64 1)) fun v47 =>
 I32 [x41, x42, x43, x44, v47] H40) (
 ev (intV .gtr x44 x45) fun v48 =>
 Br v48 (
 ev (ixS 2 x41 x42) fun v49 =>
 ev (ldn 2 H40 v49) fun v50 =>
 ev (ixS 2 x41 x45) fun v51 =>
 ev (ldn 2 H40 v51) fun v52 =>
 ev (ixS 2 x41 x45) fun v53 =>
 ev (sto 2 H40 v53 v50) fun H54 =>
 ev (ixS 2 x41 x42) fun v55 =>
 ev (sto 2 H54 v55 v52) fun H56 =>
 Q (.tuple #[x45, (.bool true)]) H56) (
 ev (ixS 2 x41 x45) fun v57 =>
 ev (ldn 2 H40 v57) fun v58 =>
 ev (ixS 2 x41 x44) fun v59 =>
 ev (ldn 2 H40 v59) fun v60 =>
 ev (ixS 2 x41 x44) fun v61 =>
 ev (sto 2 H40 v61 v58) fun H62 =>
 ev (ixS 2 x41 x45) fun v63 =>
 ev (sto 2 H62 v63 v60) fun H64 =>
 ev (intV .add x44 (.int .i64 1)) fun v65 =>
 ev (intV .sub x45 (.int .i64 1)) fun v66 =>
 ∀ I67 : List Value → Heap → Prop, (∀ H68, ∀ x69, ∀ x70, ∀ x71, ∀ x72, ∀ x73, 
 (∀ I74 : List Value → Heap → Prop, (∀ H75, ∀ x76, ∀ x77, ∀ x78, ∀ x79, ∀ x80, 
 (∀ K81 : List Value → Heap → Prop, (∀ H82, ∀ x83, ∀ x84, ∀ x85, ∀ x86, ∀ x87, ∀ x88, 
 (Br x88 (
 ev (intV .add x86 (.int .i64 1)) fun v89 =>
 I74 [x83, x84, x85, v89, x87] H82) (
 ∀ I90 : List Value → Heap → Prop, (∀ H91, ∀ x92, ∀ x93, ∀ x94, ∀ x95, ∀ x96, 
 (∀ K97 : List Value → Heap → Prop, (∀ H98, ∀ x99, ∀ x100, ∀ x101, ∀ x102, ∀ x103, ∀ x104, 
 (Br x104 (
 ev (intV .sub x103 (.int .i64 1)) fun v105 =>
 I90 [x99, x100, x101, x102, v105] H98) (
 ev (intV .gtr x102 x103) fun v106 =>
 Br v106 (
 ev (ixS 2 x99 x100) fun v107 =>
 ev (ldn 2 H98 v107) fun v108 =>
 ev (ixS 2 x99 x103) fun v109 =>
 ev (ldn 2 H98 v109) fun v110 =>
 ev (ixS 2 x99 x103) fun v111 =>
 ev (sto 2 H98 v111 v108) fun H112 =>
 ev (ixS 2 x99 x100) fun v113 =>
 ev (sto 2 H112 v113 v110) fun H114 =>
 Q (.tuple #[x103, (.bool false)]) H114) (
 ev (ixS 2 x99 x103) fun v115 =>
 ev (ldn 2 H98 v115) fun v116 =>
 ev (ixS 2 x99 x102) fun v117 =>
 ev (ldn 2 H98 v117) fun v118 =>
 ev (ixS 2 x99 x102) fun v119 =>
 ev (sto 2 H98 v119 v116) fun H120 =>
 ev (ixS 2 x99 x103) fun v121 =>
 ev (sto 2 H120 v121 v118) fun H122 =>
 ev (intV .add x102 (.int .i64 1)) fun v123 =>
 ev (intV .sub x103 (.int .i64 1)) fun v124 =>
 I67 [x99, x100, x101, v123, v124] H122))) → K97 [x99, x100, x101, x102, x103, x104] H98) →
 ev (intV .leq x95 x96) fun v125 =>
 Br v125 (
 ev (ixS 2 x92 x96) fun v126 =>
 ev (ldn 2 H91 v126) fun v127 =>
 ev (ixS 2 x92 x93) fun v128 =>
 ev (ldn 2 H91 v128) fun v129 =>
 clW PP x94 [v127, v129] H91 fun v130 H131 =>
 ev (intV .lss v130 (.int .i64 0)) fun v132 =>
 ev (unV .not v132) fun v133 =>
 K97 [x92, x93, x94, x95, x96, v133] H131) (
 K97 [x92, x93, x94, x95, x96, (.bool false)] H91)) → I90 [x92, x93, x94, x95, x96] H91) →
 I90 [x83, x84, x85, x86, x87] H82)) → K81 [x83, x84, x85, x86, x87, x88] H82) →
 ev (intV .leq x79 x80) fun v134 =>
 Br v134 (
 ev (ixS 2 x76 x79) fun v135 =>
 ev (ldn 2 H75 v135) fun v136 =>
 ev (ixS 2 x76 x77) fun v137 =>
 ev (ldn 2 H75 v137) fun v138 =>
 clW PP x78 [v136, v138] H75 fun v139 H140 =>
 ev (intV .lss v139 (.int .i64 0)) fun v141 =>
 K81 [x76, x77, x78, x79, x80, v141] H140) (
 K81 [x76, x77, x78, x79, x80, (.bool false)] H75)) → I74 [x76, x77, x78, x79, x80] H75) →
 I74 [x69, x70, x71, x72, x73] H68) → I67 [x69, x70, x71, x72, x73] H68) →
 I67 [x41, x42, x43, v65, v66] H64))) → K39 [x41, x42, x43, x44, x45, x46] H40) →
 ev (intV .leq x37 x38) fun v142 =>
 Br v142 (
 ev (ixS 2 x34 x38) fun v143 =>
 ev (ldn 2 H33 v143) fun v144 =>
 ev (ixS 2 x34 x35) fun v145 =>
 ev (ldn 2 H33 v145) fun v146 =>
 clW PP x36 [v144, v146] H33 fun v147 H148 =>
 ev (intV .lss v147 (.int .i64 0)) fun v149 =>
 ev (unV .not v149) fun v150 =>
 K39 [x34, x35, x36, x37, x38, v150] H148) (
 K39 [x34, x35, x36, x37, x38, (.bool false)] H33)) → I32 [x34, x35, x36, x37, x38] H33) →
 I32 [x25, x26, x27, x28, x29] H24)) → K23 [x25, x26, x27, x28, x29, x30] H24) →
 ev (intV .leq x21 x22) fun v151 =>
 Br v151 (
 ev (ixS 2 x18 x21) fun v152 =>
 ev (ldn 2 H17 v152) fun v153 =>
 ev (ixS 2 x18 x19) fun v154 =>
 ev (ldn 2 H17 v154) fun v155 =>
 clW PP x20 [v153, v155] H17 fun v156 H157 =>
 ev (intV .lss v156 (.int .i64 0)) fun v158 =>
 K23 [x18, x19, x20, x21, x22, v158] H157) (
 K23 [x18, x19, x20, x21, x22, (.bool false)] H17)) → I16 [x18, x19, x20, x21, x22] H17) →
 I16 [x0, x1, x4, v14, v15] H13
theorem T300 {x0 x1 x2 x3 x4 : Value} {Q : Value → Heap → Prop} {H : Heap} (h : sh300 x0 x1 x2 x3 x4 Q H) : T PP 300 [x0, x1, x2, x3, x4] H Q :=
  T_of_eq eok foll (.s .n (.s .n (.s .n (.s (.k (.l [0, 1, 4, 12, 13] (.s (.j [0, 1, 4, 12, 13, 47] .n .n) .n))) (.s (.k (.l [0, 1, 4, 12, 13] (.s (.j [0, 1, 4, 12, 13, 66] .n .n) .n))) (.s .n (.s .n (.s .n (.s .n (.s (.k (.l [0, 1, 4, 12, 13] (.k (.s (.k (.l [0, 1, 4, 12, 13] (.s (.j [0, 1, 4, 12, 13, 120] .n .n) .n))) (.s (.k (.l [0, 1, 4, 12, 13] (.s (.j [0, 1, 4, 12, 13, 139] .n .n) .n))) .n))))) .n)))))))))) Tryz.func300 (by kernel_rfl) (by kernel_rfl) (by kernel_rfl) h
/-- math/bits.Len32 -/
def sh301 (x0 : Value) (Q : Value → Heap → Prop) (H : Heap) : Prop :=
 ∀ K2 : List Value → Heap → Prop, (∀ H3, ∀ x4, ∀ x5, 
 (∀ K6 : List Value → Heap → Prop, (∀ H7, ∀ x8, ∀ x9, 
 (ev (convV .u8 x8) fun v10 =>
 ev (ixT (.string ⟨((([0, 1, 2, 2, 3, 3, 3, 3, 4, 4, 4, 4, 4, 4, 4, 4, 5, 5, 5, 5, 5, 5, 5, 5, 5, 5, 5, 5, 5, 5, 5, 5, 6, 6, 6, 6, 6, 6, 6, 6, 6, 6, 6, 6, 6, 6, 6, 6, 6, 6, 6, 6, 6, 6, 6, 6, 6, 6, 6, 6, 6, 6, 6, 6] : List UInt8) ++ ([7, 7, 7, 7, 7, 7, 7, 7, 7, 7, 7, 7, 7, 7, 7, 7, 7, 7, 7, 7, 7, 7, 7, 7, 7, 7, 7, 7, 7, 7, 7, 7, 7, 7, 7, 7, 7, 7, 7, 7, 7, 7, 7, 7, 7, 7, 7, 7, 7, 7, 7, 7, 7, 7, 7, 7, 7, 7, 7, 7, 7, 7, 7, 7] : List UInt8)) ++ (([8, 8, 8, 8, 8, 8, 8, 8, 8, 8, 8, 8, 8, 8, 8, 8, 8, 8, 8, 8, 8, 8, 8, 8, 8, 8, 8, 8, 8, 8, 8, 8, 8, 8, 8, 8, 8, 8, 8, 8, 8, 8, 8, 8, 8, 8, 8, 8, 8, 8, 8, 8, 8, 8, 8, 8, 8, 8, 8, 8, 8, 8, 8, 8] : List UInt8) ++ ([8, 8, 8, 8, 8, 8, 8, 8, 8, 8, 8, 8, 8, 8, 8, 8, 8, 8, 8, 8, 8, 8, 8, 8, 8, 8, 8, 8, 8, 8, 8, 8, 8, 8, 8, 8, 8, 8, 8, 8, 8, 8, 8, 8, 8, 8, 8, 8, 8, 8, 8, 8, 8, 8, 8, 8, 8, 8, 8, 8, 8, 8, 8, 8] : List UInt8))).toArray⟩) v10) fun v11 =>
 ev (convV .i64 v11) fun v12 =>
 ev (intV .add x9 v12) fun v13 =>
 Q v13 H7) → K6 [x8, x9] H7) →
 ev (intV .geq x4 (.int .u32 256)) fun v14 =>
 Br v14 (
 ev (shV .shr x4 (.int .u64 8)) fun v15 =>
 ev (intV .add x5 (.int .i64 8)) fun v16 =>
 K6 [v15, v16] H3) (
 K6 [x4, x5] H3)) → K2 [x4, x5] H3) →
 ev (intV .geq x0 (.int .u32 65536)) fun v17 =>
 Br v17 (
 ev (shV .shr x0 (.int .u64 16)) fun v18 =>
 K2 [v18, (.int .i64 16)] H) (
 K2 [x0, (.int .i64 0)] H)
theorem T301 {x0 : Value} {Q : Value → Heap → Prop} {H : Heap} (h : sh301 x0 Q H) : T PP 301 [x0] H Q :=
  T_of_eq eok foll (.s .n (.j [0, 2] .n (.j [0, 2] .n .n))) Tryz.func301 (by kernel_rfl) (by kernel_rfl) (by kernel_rfl) h
/-- math/bits.Len64 -/
def sh302 (x0 : Value) (Q : Value → Heap → Prop) (H : Heap) : Prop :=
 ∀ K2 : List Value → Heap → Prop, (∀ H3, ∀ x4, ∀ x5, 
 (∀ K6 : List Value → Heap → Prop, (∀ H7, ∀ x8, ∀ x9, 
 (∀ K10 : List Value → Heap → Prop, (∀ H11, ∀ x12, ∀ x13, 
 (ev (convV .u8 x12) fun v14 =>
 ev (ixT (.string ⟨((([0, 1, 2, 2, 3, 3, 3, 3, 4, 4, 4, 4, 4, 4, 4, 4, 5, 5, 5, 5, 5, 5, 5, 5, 5, 5, 5, 5, 5, 5, 5, 5, 6, 6, 6, 6, 6, 6, 6, 6, 6, 6, 6, 6, 6, 6, 6, 6, 6, 6, 6, 6, 6, 6, 6, 6, 6, 6, 6, 6, 6, 6, 6, 6] : List UInt8) ++ ([7, 7, 7, 7, 7, 7, 7, 7, 7, 7, 7, 7, 7, 7, 7, 7, 7, 7, 7, 7, 7, 7, 7, 7, 7, 7, 7, 7, 7, 7, 7, 7, 7, 7, 7, 7, 7, 7, 7, 7, 7, 7, 7, 7, 7, 7, 7, 7, 7, 7, 7, 7, 7, 7, 7, 7, 7, 7, 7, 7, 7, 7, 7, 7] : List UInt8)) ++ (([8, 8, 8, 8, 8, 8, 8, 8, 8, 8, 8, 8, 8, 8, 8, 8, 8, 8, 8, 8, 8, 8, 8, 8, 8, 8, 8, 8, 8, 8, 8, 8, 8, 8, 8, 8, 8, 8, 8, 8, 8, 8, 8, 8, 8, 8, 8, 8, 8, 8, 8, 8, 8, 8, 8, 8, 8, 8, 8, 8, 8, 8, 8, 8] : List UInt8) ++ ([8, 8, 8, 8, 8, 8, 8, 8, 8, 8, 8, 8, 8, 8, 8, 8, 8, 8, 8, 8, 8, 8, 8, 8, 8, 8, 8, 8, 8, 8, 8, 8, 8, 8, 8, 8, 8, 8, 8, 8, 8, 8, 8, 8, 8, 8, 8, 8, 8, 8, 8, 8, 8, 8, 8, 8, 8, 8, 8, 8, 8, 8, 8, 8] : List UInt8))).toArray⟩) v14) fun v15 =>
 ev (convV .i64 v15) fun v16 =>
 ev (intV .add x13 v16) fun v17 =>
 Q v17 H11) → K10 [x12, x13] H11) →
 ev (intV .geq x8 (.int .u64 256)) fun v18 =>
 Br v18 (
 ev (shV .shr x8 (.int .u64 8)) fun v19 =>
 ev (intV .add x9 (.int .i64 8)) fun v20 =>
 K10 [v19, v20] H7) (
 K10 [x8, x9] H7)) → K6 [x8, x9] H7) →
 ev (intV .geq x4 (.int .u64 65536)) fun v21 =>
 Br v21 (
 ev (shV .shr x4 (.int .u64 16)) fun v22 =>
 ev (intV .add x5 (.int .i64 16)) fun v23 =>
 K6 [v22, v23] H3) (
 K6 [x4, x5] H3)) → K2 [x4, x5] H3) →
 ev (intV .geq x0 (.int .u64 4294967296)) fun v24 =>
 Br v24 (
 ev (shV .shr x0 (.int .u64 32)) fun v25 =>
 K2 [v25, (.int .i64 32)] H) (
 K2 [x0, (.int .i64 0)] H)
theorem T302 {x0 : Value} {Q : Value → Heap → Prop} {H : Heap} (h : sh302 x0 Q H) : T PP 302 [x0] H Q :=
  T_of_eq eok foll (.s .n (.j [0, 2] .n (.j [0, 2] .n (.j [0, 2] .n .n)))) Tryz.func302 (by kernel_rfl) (by kernel_rfl) (by kernel_rfl) h
end Go.Sl

/- Proved here: regions in every order, branches, functions and loops over functions have their conditions computed soundly, for every program that follows mixed orders. -/
import Derived.Test.YtjneoighgbggcaaGreatA0
namespace Go.Sl
open Go

def entO (α : Env) : Operand → Ent
  | .tmp t => lk α t
  | .const (.bool c) => .b c
  | .const v => .v v
  | .global g => .v (.pointer (some ⟨g, 0, none⟩))
  | .func f => .v (.func (.func f) #[] #[])
def EvO (α : Env) (x : Operand) : Option Value := (entO α x).val

def opE (α : Env) : Op → Option Ent
  | .move x => some (entO α x)
  | .assign x => some (entO α x)
  | .pick c a b => match entO α c with
    | .b true => some (entO α a)
    | .b false => some (entO α b)
    | _ => none
  | .unOp .not _ x => match entO α x with
    | .b true => some (.b false)
    | .b false => some (.b true)
    | _ => none
  | _ => none

def nthO : List Oper → Nat → Option Oper
  | [], _ => none
  | o :: _, 0 => some o
  | _ :: r, n + 1 => nthO r n
theorem nthO_eq (l : List Oper) (i : Nat) : nthO l i = l[i]? := by
  induction l generalizing i with
  | nil => simp [nthO]
  | cons o r ih => cases i <;> simp [nthO, ih]

def vop0 (P : Program) (E : List TypeId) (o : Oper) (K : Env → Heap → Prop) (α : Env) (H : Heap) : Prop :=
  match opE α o.op with
  | some e => K (stO α o.dst e) H
  | none => opW P E (EvO α) H o.op fun v H' => K (stO α o.dst (.v v)) H'

def dstAt (ops : List Oper) (j : Nat) : Option Nat := match nthO ops j with | some o => o.dst | none => none

def vop (P : Program) (E : List TypeId) (ops : List Oper) (o : Oper) (K : Env → Heap → Prop) (α : Env) (H : Heap) : Prop :=
  match o.guard with
  | none => vop0 P E o K α H
  | some (j, want) => match dstAt ops j with
    | none => K (stO α o.dst .nd) H
    | some d => match lk α d with
      | .b c => match c, want with
        | true, true => vop0 P E o K α H
        | false, false => vop0 P E o K α H
        | true, false => K (stO α o.dst .nd) H
        | false, true => K (stO α o.dst .nd) H
      | .v x => match want with
        | true => Br x (vop0 P E o K (st α d (.b true)) H) (K (stO (st α d (.b false)) o.dst .nd) H)
        | false => Br x (K (stO (st α d (.b true)) o.dst .nd) H) (vop0 P E o K (st α d (.b false)) H)
      | .un => False
      | .nd => K (stO α o.dst .nd) H

def vops (P : Program) (E : List TypeId) (ops : List Oper) : List Oper → (Env → Heap → Prop) → Env → Heap → Prop
  | [], K, α, H => K α H
  | o :: r, K, α, H => vop P E ops o (vops P E ops r K) α H

def lkb : List Bool → Nat → Bool → Bool
  | [], _, d => d
  | x :: _, 0, _ => x
  | _ :: r, n + 1, d => lkb r n d
theorem lkb_eq (l : List Bool) (i : Nat) (d : Bool) : lkb l i d = l.getD i d := by
  induction l generalizing i with
  | nil => simp [lkb]
  | cons o r ih => cases i <;> simp [lkb, ih]
def stb : List Bool → Nat → List Bool
  | [], _ => []
  | _ :: r, 0 => true :: r
  | x :: r, n + 1 => x :: stb r n
theorem stb_eq (l : List Bool) (i : Nat) : stb l i = l.set i true := by
  induction l generalizing i with
  | nil => simp [stb]
  | cons o r ih => cases i <;> simp [stb, ih]

def rdyO (listed : List Bool) (o : Oper) (i : Nat) : Bool := !lkb listed i true && o.after.toList.all fun e => !Region.binds .any e || lkb listed e.on false
def rdyGo (listed : List Bool) : List Oper → Nat → List Nat
  | [], _ => []
  | o :: r, i => bif rdyO listed o i then i :: rdyGo listed r (i + 1) else rdyGo listed r (i + 1)

/-- What cannot come up before operation i (reckoned in one pass; checked below). -/
def lateGo (i : Nat) : List Oper → List Bool → List Bool
  | [], acc => acc
  | o :: r, acc => lateGo i r (acc ++ [o.after.toList.any fun e => Region.binds .any e && (e.on == i || lkb acc e.on false)])

/-- Whether all that may come up before operation i is as asked. -/
def okGo (f : Oper → Nat → Bool) (listed late : List Bool) (i : Nat) : List Oper → Nat → Bool
  | [], _ => true
  | o :: r, j => (j == i || lkb listed j true ||
      (bif lkb late j false then o.after.toList.any fun e => Region.binds .any e && (e.on == i || (lkb late e.on false && !lkb listed e.on true && !(e.on == i))) else f o j)) && okGo f listed late i r (j + 1)

def okAll (f : Oper → Nat → Bool) (ops : List Oper) (listed : List Bool) (i : Nat) : Bool := okGo f listed (lateGo i ops []) i ops 0

def fFree (A : Array Oper) (oi : Oper) (o : Oper) (_ : Nat) : Bool := oi.apart A o && (isP oi.op || isMild o.op)
def fFloat (A : Array Oper) (oi : Oper) (o : Oper) (_ : Nat) : Bool := oi.apart A o
def isLd : Op → Bool
  | .load .. => true
  | _ => false
/-- Nothing else that may come up looks at this. -/
def dstFree (A : Array Oper) (listed late : List Bool) (d : Nat) : List Oper → Nat → Bool
  | [], _ => true
  | o :: r, j => (lkb listed j true || lkb late j false || !(o.looksAt A).contains d) && dstFree A listed late d r (j + 1)
def fM (ops : List Oper) (listed late : List Bool) (oi : Oper) (o : Oper) (j : Nat) : Bool := oi.apart ops.toArray o && isAl o.op && o.guard.isNone && rdyO listed o j && (match o.dst with | some d => dstFree ops.toArray listed late d ops 0 | none => true)

def pick (g : Oper → Bool) (f : Nat → Oper → Oper → Nat → Bool) (ops : List Oper) (listed : List Bool) : List Nat → Option (Nat × Oper)
  | [] => none
  | i :: r => match nthO ops i with
    | some o => bif g o && okAll (f i o) ops listed i then some (i, o) else pick g f ops listed r
    | none => pick g f ops listed r

def pickFree (ops : List Oper) (listed : List Bool) : List Nat → Option (Nat × Oper) := pick (fun o => isR o.op) (fun _ => fFree ops.toArray) ops listed
def pickFloat (ops : List Oper) (listed : List Bool) : List Nat → Option (Nat × Oper) := pick (fun o => isLd o.op) (fun _ => fFloat ops.toArray) ops listed
def pickM (ops : List Oper) (listed : List Bool) (rs : List Nat) : Option (Nat × Oper) := match pick (fun o => !isAl o.op) (fun i => fM ops listed (lateGo i ops [])) ops listed rs with
  | some p => some p
  | none => pick (fun o => isAl o.op) (fun i => fM ops listed (lateGo i ops [])) ops listed rs

def allR (f : Nat → Oper → Prop) (ops : List Oper) : List Nat → Prop
  | [] => True
  | [i] => match nthO ops i with | some o => f i o | none => False
  | i :: j :: r => (match nthO ops i with | some o => f i o | none => False) ∧ allR f ops (j :: r)

/-- Something read ahead of its time: where, what, and what it must still be. -/
structure Flo where
  d : List Nat
  op : Op
  ρ : Operand → Option Value
  v : Value

def aft (o : Oper) (d : List Nat) : Bool := o.after.toList.any fun e => Region.binds .any e && d.any fun i => e.on == i
def flt (o : Oper) (L : List Flo) : List Flo := L.filter fun f => !aft o f.d
def addL (i : Nat) (o : Oper) (L : List Flo) : List Flo := L.map fun f => bif aft o f.d then { f with d := i :: f.d } else f
def chk (P : Program) (E : List TypeId) (L : List Flo) (H : Heap) : Prop := ∀ f ∈ L, opR P E f.ρ H f.op = some f.v
def chkK (P : Program) (E : List TypeId) (H : Heap) (K : Prop) : List Flo → Prop
  | [] => K
  | f :: r => ev (opR P E f.ρ H f.op) fun u => u = f.v ∧ chkK P E H K r

/-- The blocks that may be made ahead of this can be made. -/
def alCs (P : Program) (ρ : Operand → Option Value) (listed late : List Bool) (i : Nat) : List Oper → Nat → Prop → Prop
  | [], _, K => K
  | o :: r, j, K => bif j == i || lkb listed j true || lkb late j false then alCs P ρ listed late i r (j + 1) K else alC P ρ o.op (alCs P ρ listed late i r (j + 1) K)

/-- Whether it is wanted at all. -/
def gd (ops : List Oper) (o : Oper) (W U : Env → Prop) (α : Env) : Prop :=
  match o.guard with
  | none => W α
  | some (j, want) => match dstAt ops j with
    | none => U α
    | some d => match lk α d with
      | .b c => match c, want with
        | true, true => W α
        | false, false => W α
        | true, false => U α
        | false, true => U α
      | .v x => match want with
        | true => Br x (W (st α d (.b true))) (U (st α d (.b false)))
        | false => Br x (U (st α d (.b true))) (W (st α d (.b false)))
      | .un => False
      | .nd => U α

def vregL (P : Program) (E : List TypeId) (ops : List Oper) (K : Env → Heap → Prop) : Nat → List Flo → List Bool → Env → Heap → Prop
  | 0, _, listed, α, H => match rdyGo listed ops 0 with | [] => K α H | _ => False
  | n + 1, L, listed, α, H => match rdyGo listed ops 0 with
    | [] => K α H
    | i :: r => match pickFree ops listed (i :: r) with
      | some (k, o) => vop P E ops o (vregL P E ops K n (addL k o L) (stb listed k)) α H
      | none => match pickFloat ops listed (i :: r) with
        | some (k, o) => gd ops o (fun α => ev (opR P E (EvO α) H o.op) fun v => vregL P E ops K n (⟨[k], o.op, EvO α, v⟩ :: addL k o L) (stb listed k) (stO α o.dst (.v v)) H)
            (fun α => vregL P E ops K n (addL k o L) (stb listed k) (stO α o.dst .nd) H) α
        | none => match pickM ops listed (i :: r) with
          | some (k, o) => alCs P (EvO α) listed (lateGo k ops []) k ops 0 (vop P E ops o (fun α' H' => chkK P E H' (vregL P E ops K n (flt o L) (stb listed k) α' H') (flt o L)) α H)
          | none => allR (fun k o => vop P E ops o (fun α' H' => chkK P E H' (vregL P E ops K n (flt o L) (stb listed k) α' H') (flt o L)) α H) ops (i :: r)
def vreg (P : Program) (E : List TypeId) (ops : List Oper) (K : Env → Heap → Prop) (n : Nat) (listed : List Bool) (α : Env) (H : Heap) : Prop := vregL P E ops K n [] listed α H

section
variable {P : Program} {E : List TypeId} {ops : List Oper} {α : Env} {H : Heap} {K : Env → Heap → Prop}

/-- The concrete side: what holds behind an operation, of the temporaries as they are. -/
def Post (K : Env → Heap → Prop) (a : Act) (H : Heap) : Prop := ∃ α, EnvOk α a.tmps ∧ K α H
def ρA (a : Act) : Operand → Option Value := fun x => some (a.eval x)
def cop (P : Program) (E : List TypeId) (A : Array Oper) (o : Oper) (K : Act → Heap → Prop) (a : Act) (H : Heap) : Prop :=
  if Region.wanted o (yielded A a.tmps) = true then opW P E (ρA a) H o.op fun v H' => K (a.put o.dst v) H' else K (a.put o.dst undef) H

theorem entO_ok {a : Act} (h : EnvOk α a.tmps) {x : Operand} {v : Value} (hx : (entO α x).val = some v) : a.eval x = v := by
  cases x with
  | tmp t => have := h.val t v hx; simp [Act.eval, this]
  | const u => cases u <;> (simp [entO, Ent.val] at hx; subst hx; rfl)
  | global g => simp [entO, Ent.val] at hx; subst hx; rfl
  | func f => simp [entO, Ent.val] at hx; subst hx; rfl

theorem vop0_cop {a : Act} {o : Oper} (h : EnvOk α a.tmps) (hv : vop0 P E o K α H) : opW P E (ρA a) H o.op fun v H' => Post K (a.put o.dst v) H' := by
  unfold vop0 at hv
  split at hv
  · rename_i e he
    have fin : ∀ v, (∀ u, e.val = some u → u = v) → Post K (a.put o.dst v) H := fun v hu => ⟨_, h.put o.dst e v hu, hv⟩
    cases ho : o.op <;> rw [ho] at he <;> simp only [opE] at he <;> try cases he
    case move.refl x => exact fin _ fun u hu => (entO_ok h hu).symm
    case assign.refl x => exact fin _ fun u hu => (entO_ok h hu).symm
    case pick c x y =>
      split at he
      · rename_i hc
        have e1 : a.eval c = .bool true := entO_ok h (by rw [hc]; rfl)
        cases he
        simp only [opW, opR, ρA, ob, e1, pickV, ev_some]
        exact fin _ fun u hu => (entO_ok h hu).symm
      · rename_i hc
        have e1 : a.eval c = .bool false := entO_ok h (by rw [hc]; rfl)
        cases he
        simp only [opW, opR, ρA, ob, e1, pickV, ev_some]
        exact fin _ fun u hu => (entO_ok h hu).symm
      · cases he
    case unOp op t x =>
      cases op <;> dsimp only [opE] at he <;> try cases he
      split at he
      · rename_i hc
        have e1 : a.eval x = .bool true := entO_ok h (by rw [hc]; rfl)
        cases he
        simp only [opW, opR, ρA, ob, e1, unV, ev_some]
        exact fin _ fun u hu => by cases hu; rfl
      · rename_i hc
        have e1 : a.eval x = .bool false := entO_ok h (by rw [hc]; rfl)
        cases he
        simp only [opW, opR, ρA, ob, e1, unV, ev_some]
        exact fin _ fun u hu => by cases hu; rfl
      · cases he
  · refine opW_mono (ρ := EvO α) (fun v H' hk => ⟨_, h.put o.dst (.v v) v (fun u hu => by cases hu; rfl), hk⟩) (fun x _ v hx => ?_) hv
    have := entO_ok h (x := x) (v := v) hx
    simp [ρA, this]

theorem undef_post {a : Act} {dst : Option Nat} (h : EnvOk α a.tmps) (hk : K (stO α dst .nd) H) : Post K (a.put dst undef) H :=
  ⟨_, h.put dst .nd undef (fun u hu => by cases hu; rfl), hk⟩

theorem vop_cop {a : Act} {o : Oper} (h : EnvOk α a.tmps) (hv : vop P E ops o K α H) : cop P E ops.toArray o (Post K) a H := by
  unfold vop at hv
  unfold cop Region.wanted
  split at hv
  · rename_i hg; simp only [hg, if_true]; exact vop0_cop h hv
  · rename_i j want hg
    simp only [hg]
    have hy : yielded ops.toArray a.tmps j = match (match dstAt ops j with | some d => a.tmps[d]? | none => none) with | some (.bool b) => some b | _ => none := by
      unfold yielded dstAt
      rw [nthO_eq]
      simp only [List.getElem?_toArray]
      cases ops[j]? with
      | none => rfl
      | some oj => simp only [Option.bind_some]; cases oj.dst <;> first | rfl | (simp only [Option.bind_none, Option.bind_some]; rfl) | simp only [Option.bind_none, Option.bind_some]
    rw [hy]
    split at hv
    · rename_i hd
      simp only [hd]
      rw [if_neg (by simp)]
      exact undef_post h hv
    · rename_i d hd
      simp only [hd]
      split at hv
      · rename_i c hc
        have e1 := h.val d (.bool c) (by rw [hc]; rfl)
        rw [e1]
        split at hv
        · simp only [beq_self_eq_true, if_true]; exact vop0_cop h hv
        · simp only [beq_self_eq_true, if_true]; exact vop0_cop h hv
        · rw [if_neg (by simp)]; exact undef_post h hv
        · rw [if_neg (by simp)]; exact undef_post h hv
      · rename_i x hx
        have e1 := h.val d x (by rw [hx]; rfl)
        rw [e1]
        have ht : x = .bool true → EnvOk (st α d (.b true)) a.tmps := fun hh => h.refine d _ fun u hu => by cases hu; rw [e1, hh]
        have hf : x = .bool false → EnvOk (st α d (.b false)) a.tmps := fun hh => h.refine d _ fun u hu => by cases hu; rw [e1, hh]
        split at hv
        · obtain ⟨⟨c, rfl⟩, h1, h2⟩ := hv
          cases c
          · rw [if_neg (by simp)]; exact undef_post (hf rfl) (h2 rfl)
          · rw [if_pos (by simp)]; exact vop0_cop (ht rfl) (h1 rfl)
        · obtain ⟨⟨c, rfl⟩, h1, h2⟩ := hv
          cases c
          · rw [if_pos (by simp)]; exact vop0_cop (hf rfl) (h2 rfl)
          · rw [if_neg (by simp)]; exact undef_post (ht rfl) (h1 rfl)
      · exact hv.elim
      · rename_i hx
        have e1 := h.val d undef (by rw [hx]; rfl)
        rw [e1, if_neg (by simp [undef])]
        exact undef_post h hv

theorem cop_mono {A : Array Oper} {o : Oper} {a : Act} {K K' : Act → Heap → Prop} (hk : ∀ a H, K a H → K' a H) (h : cop P E A o K a H) : cop P E A o K' a H := by
  unfold cop at h ⊢
  split
  · rename_i hw; rw [if_pos hw] at h; exact opW_mono (fun v H' => hk _ _) (fun _ _ _ h => h) h
  · rename_i hw; rw [if_neg hw] at h; exact hk _ _ h

/-- Every order, concretely. -/
def anyC (P : Program) (E : List TypeId) (A : Array Oper) (K : Act → Heap → Prop) : Nat → Array Bool → Act → Heap → Prop
  | 0, listed, a, H => Region.ready .any A listed = [] ∧ K a H
  | n + 1, listed, a, H => (Region.ready .any A listed = [] → K a H) ∧
    ∀ i ∈ Region.ready .any A listed, match A[i]? with
      | none => anyC P E A K n (listed.setIfInBounds i true) a H
      | some o => cop P E A o (anyC P E A K n (listed.setIfInBounds i true)) a H

/-- In this state, and in each in which no less is known, the operation yields this value. -/
def YieldsC (P : Program) (E : List TypeId) (A : Array Oper) (H : Heap) (o : Oper) (v : Value) (a : Act) : Prop :=
  (Region.wanted o (yielded A a.tmps) = true ∧ opR P E (ρA a) H o.op = some v) ∨ (Region.wanted o (yielded A a.tmps) = false ∧ v = undef)

theorem YieldsC.sub {A : Array Oper} {H' : Heap} {o : Oper} {v : Value} {a : Act} (h : YieldsC P E A H o v a) (s : Sub H H') : YieldsC P E A H' o v a :=
  h.imp (fun ⟨x, y⟩ => ⟨x, opR_mono s (fun _ _ _ h => h) y⟩) id
theorem YieldsC.any {A : Array Oper} (H' : Heap) {o : Oper} {v : Value} {a : Act} (hp : isP o.op = true) (h : YieldsC P E A H o v a) : YieldsC P E A H' o v a :=
  h.imp (fun ⟨x, y⟩ => ⟨x, by rw [isP_opR hp (H' := H)]; exact y⟩) id

theorem ρA_put {A : Array Oper} {a : Act} {o : Oper} {dst : Option Nat} {v : Value} (h : ∀ d, dst = some d → d ∉ o.looksAt A) : ∀ x ∈ o.op.operands.toList, ∀ u, ρA (a.put dst v) x = some u → ρA a x = some u := by
  intro x hx u hu
  have : (a.put dst v).eval x = a.eval x := Act.eval_put fun d hd hxd => h d hd (by
    subst hxd
    exact List.mem_append_left _ (List.mem_filterMap.2 ⟨.tmp d, by simpa using hx, rfl⟩))
  unfold ρA at hu ⊢
  rw [this] at hu; exact hu
theorem ρA_put' {A : Array Oper} {a : Act} {o : Oper} {dst : Option Nat} {v : Value} (h : ∀ d, dst = some d → d ∉ o.looksAt A) : ∀ x ∈ o.op.operands.toList, ∀ u, ρA a x = some u → ρA (a.put dst v) x = some u := by
  intro x hx u hu
  have : (a.put dst v).eval x = a.eval x := Act.eval_put fun d hd hxd => h d hd (by
    subst hxd
    exact List.mem_append_left _ (List.mem_filterMap.2 ⟨.tmp d, by simpa using hx, rfl⟩))
  unfold ρA at hu ⊢
  rw [this]; exact hu

theorem YieldsC.put {A : Array Oper} {o : Oper} {v u : Value} {a : Act} {dst : Option Nat} (h : YieldsC P E A H o v a) (hd : ∀ d, dst = some d → d ∉ o.looksAt A) : YieldsC P E A H o v (a.put dst u) := by
  have hw := wanted_put (ops := A) o a dst u hd
  unfold YieldsC at *
  rw [hw]
  exact h.imp (fun ⟨x, y⟩ => ⟨x, opR_mono (Sub.refl H) (ρA_put' hd) y⟩) id

/-- Every order, with what was read ahead. -/
def anyL (P : Program) (E : List TypeId) (A : Array Oper) (K : Act → Heap → Prop) : Nat → List Flo → Array Bool → Act → Heap → Prop
  | 0, _, listed, a, H => Region.ready .any A listed = [] ∧ K a H
  | n + 1, L, listed, a, H => (Region.ready .any A listed = [] → K a H) ∧
    ∀ i ∈ Region.ready .any A listed, match A[i]? with
      | none => anyL P E A K n L (listed.setIfInBounds i true) a H
      | some o => cop P E A o (fun a' H' => chk P E (flt o L) H' ∧ anyL P E A K n (flt o L) (listed.setIfInBounds i true) a' H') a H

theorem anyL_anyC {A : Array Oper} {K : Act → Heap → Prop} : ∀ (n : Nat) (L : List Flo) (listed : Array Bool) (a : Act) (H : Heap), anyL P E A K n L listed a H → anyC P E A K n listed a H := by
  intro n
  induction n with
  | zero => intro L listed a H h; exact h
  | succ n ih =>
    intro L listed a H h
    refine ⟨h.1, fun i hi => ?_⟩
    have := h.2 i hi
    cases ho : A[i]? with
    | none => rw [ho] at this; exact ih _ _ _ _ this
    | some o => rw [ho] at this; exact cop_mono (fun a' H' hh => ih _ _ _ _ hh.2) this

theorem flt_sub {o : Oper} {L L' : List Flo} (h : L.Sublist L') : (flt o L).Sublist (flt o L') := h.filter _
theorem flt_sublist {o : Oper} {L : List Flo} : (flt o L).Sublist L := List.filter_sublist
theorem flt_comm {o o' : Oper} {L : List Flo} : flt o (flt o' L) = flt o' (flt o L) := by
  unfold flt; rw [List.filter_filter, List.filter_filter]; congr 1; funext f; rw [Bool.and_comm]
theorem chk_sub {L L' : List Flo} {H : Heap} (h : L.Sublist L') (c : chk P E L' H) : chk P E L H := fun f hf => c f (h.subset hf)
theorem chk_mono {L : List Flo} {H H' : Heap} (s : Sub H H') (c : chk P E L H) : chk P E L H' := fun f hf => opR_mono s (fun _ _ _ h => h) (c f hf)

theorem anyL_sub {A : Array Oper} {K : Act → Heap → Prop} : ∀ (n : Nat) (L L' : List Flo) (listed : Array Bool) (a : Act) (H : Heap), L.Sublist L' → anyL P E A K n L' listed a H → anyL P E A K n L listed a H := by
  intro n
  induction n with
  | zero => intro L L' listed a H _ h; exact h
  | succ n ih =>
    intro L L' listed a H hs h
    refine ⟨h.1, fun i hi => ?_⟩
    have := h.2 i hi
    cases ho : A[i]? with
    | none => rw [ho] at this; exact ih _ _ _ _ _ hs this
    | some o => rw [ho] at this; exact cop_mono (fun a' H' hh => ⟨chk_sub (flt_sub hs) hh.1, ih _ _ _ _ _ (flt_sub hs) hh.2⟩) this

/-- What cannot come up before i. -/
def LateOk (A : Array Oper) (i : Nat) (listed : Array Bool) (C : Nat → Prop) : Prop :=
  ∀ j, C j → listed.getD j true = false ∧ j ≠ i ∧ ∃ oj, A[j]? = some oj ∧ ∃ e ∈ oj.after, Region.binds .any e = true ∧ (e.on = i ∨ C e.on)

theorem getD_no {listed : Array Bool} {j : Nat} (h0 : listed.getD j true = false) : listed.getD j false = false := by
  rcases Nat.lt_or_ge j listed.size with h' | h'
  · simp [h'] at h0 ⊢; exact h0
  · simp [Array.getElem?_eq_none h'] at h0

theorem LateOk.not_ready {A : Array Oper} {i : Nat} {listed : Array Bool} {C : Nat → Prop} (h : LateOk A i listed C) (hi : i ∈ Region.ready .any A listed) {j : Nat} (hj : C j) : j ∉ Region.ready .any A listed := by
  intro hr
  obtain ⟨h1, h2, oj, hoj, e, he, hb, hor⟩ := h j hj
  obtain ⟨_, o, ho, hall⟩ := mem_ready.1 hr
  rw [hoj] at ho; cases ho
  have h3 := hall e he hb
  have h4 : listed.getD e.on true = false := by
    rcases hor with rfl | hc
    · exact (mem_ready.1 hi).1
    · exact (h _ hc).1
  rw [getD_no h4] at h3; cases h3
theorem LateOk.step {A : Array Oper} {i : Nat} {listed : Array Bool} {C : Nat → Prop} (h : LateOk A i listed C) {k : Nat} (hk : ¬ C k) : LateOk A i (listed.setIfInBounds k true) C := by
  intro j hj
  obtain ⟨h1, h2, h3⟩ := h j hj
  refine ⟨?_, h2, h3⟩
  rw [getD_set_ne true (fun e => hk (by rw [e]; exact hj))]; exact h1
theorem aft_no {A : Array Oper} {listed : Array Bool} {i j : Nat} (hi : listed.getD i true = false) (hj : j ∈ Region.ready .any A listed) {oj : Oper} (hoj : A[j]? = some oj) :
    ∀ e ∈ oj.after, Region.binds .any e = true → e.on ≠ i := fun e he hb heq => by
  obtain ⟨_, o, ho, hall⟩ := mem_ready.1 hj
  rw [hoj] at ho; cases ho
  have := hall e he hb
  rw [heq, getD_no hi] at this; cases this

theorem aft_cons {o : Oper} {i : Nat} {d : List Nat} (h : ∀ e ∈ o.after, Region.binds .any e = true → e.on ≠ i) : aft o (i :: d) = aft o d := by
  unfold aft
  rw [Bool.eq_iff_iff, List.any_eq_true, List.any_eq_true]
  constructor
  · rintro ⟨e, he, h1⟩
    refine ⟨e, he, ?_⟩
    simp only [Bool.and_eq_true, List.any_cons, Bool.or_eq_true, beq_iff_eq] at h1 ⊢
    exact ⟨h1.1, h1.2.resolve_left (h e (by simpa using he) h1.1)⟩
  · rintro ⟨e, he, h1⟩
    refine ⟨e, he, ?_⟩
    simp only [Bool.and_eq_true, List.any_cons, Bool.or_eq_true] at h1 ⊢
    exact ⟨h1.1, .inr h1.2⟩
theorem flt_addL {i : Nat} {o oi : Oper} {L : List Flo} (h : ∀ e ∈ o.after, Region.binds .any e = true → e.on ≠ i) : flt o (addL i oi L) = addL i oi (flt o L) := by
  induction L with
  | nil => rfl
  | cons f L ih =>
    have e1 : aft o (bif aft oi f.d then { f with d := i :: f.d } else f : Flo).d = aft o f.d := by
      cases aft oi f.d with
      | true => exact aft_cons h
      | false => rfl
    simp only [addL, List.map_cons, flt, List.filter_cons, e1] at ih ⊢
    split
    · rw [List.map_cons, ih]
    · exact ih
theorem flt_one {i : Nat} {o : Oper} {ex : List Flo} (hex : ∀ f ∈ ex, f.d = [i]) (h : ∀ e ∈ o.after, Region.binds .any e = true → e.on ≠ i) : flt o ex = ex := by
  unfold flt
  rw [List.filter_eq_self]
  intro f hf
  rw [hex f hf, aft_cons h]; simp [aft]
theorem flt_addL_sub {i : Nat} {oi : Oper} {L : List Flo} : (flt oi L).Sublist (addL i oi L) := by
  induction L with
  | nil => exact List.Sublist.refl _
  | cons f L ih =>
    simp only [flt, List.filter_cons, addL, List.map_cons] at ih ⊢
    cases aft oi f.d with
    | true => exact ih.cons _
    | false => simpa using ih
theorem chk_addL {i : Nat} {oi : Oper} {L : List Flo} {H : Heap} : chk P E (addL i oi L) H ↔ chk P E L H := by
  unfold chk addL
  simp only [List.mem_map, forall_exists_index, and_imp, forall_apply_eq_imp_iff₂]
  constructor
  · intro h f hf
    have := h f hf
    cases hh : aft oi f.d <;> rw [hh] at this <;> exact this
  · intro h f hf
    have := h f hf
    cases hh : aft oi f.d <;> exact this

theorem anyL_first {A : Array Oper} {K : Act → Heap → Prop} {i : Nat} {oi : Oper} {v : Value} (hi : A[i]? = some oi) (hR : isR oi.op = true)
    (G : Prop) (Ok : Act → Prop) (ex : List Flo) (hex : ∀ f ∈ ex, f.d = [i])
    (hOk : ∀ (a : Act) (dst : Option Nat) (u : Value), (∀ d, dst = some d → d ∉ oi.looksAt A) → Ok a → Ok (a.put dst u))
    (hY : ∀ (a : Act) (H H' : Heap), Ok a → chk P E ex H' → (Sub H H' ∨ G) → YieldsC P E A H oi v a → YieldsC P E A H' oi v a) :
    ∀ (fuel : Nat) (L : List Flo) (listed : Array Bool) (a : Act) (H : Heap) (C : Nat → Prop), LateOk A i listed C →
      (∀ j oj, A[j]? = some oj → j ≠ i → listed.getD j true = false → ¬ C j → oi.apart A oj = true ∧ (G ∨ isMild oj.op = true)) →
      i ∈ Region.ready .any A listed → chk P E L H → Ok a → YieldsC P E A H oi v a →
      anyL P E A K fuel (ex ++ addL i oi L) (listed.setIfInBounds i true) (a.put oi.dst v) H → anyL P E A K (fuel + 1) L listed a H := by
  have here : ∀ (K' : Act → Heap → Prop) (a : Act) (H : Heap), YieldsC P E A H oi v a → K' (a.put oi.dst v) H → cop P E A oi K' a H := by
    intro K' a H hy hk
    unfold cop
    rcases hy with ⟨hw, hv⟩ | ⟨hw, rfl⟩
    · rw [if_pos hw, isR_opW hR, hv]; exact hk
    · rw [if_neg (by rw [hw]; simp)]; exact hk
  intro fuel
  induction fuel with
  | zero =>
    intro L listed a H C _ _ hr hc _ hy h
    refine ⟨fun h0 => (by rw [h0] at hr; cases hr), fun j hj => ?_⟩
    by_cases hji : j = i
    · subst hji; rw [hi]; exact here _ _ _ hy ⟨chk_sub flt_sublist hc, h⟩
    · have := ready_mono hj hji
      rw [h.1] at this
      cases this
  | succ fuel ih =>
    intro L listed a H C hC hfree hr hc hok hy h
    refine ⟨fun h0 => (by rw [h0] at hr; cases hr), fun j hj => ?_⟩
    by_cases hji : j = i
    · subst hji; rw [hi]
      exact here _ _ _ hy ⟨chk_sub flt_sublist hc, anyL_sub _ _ _ _ _ _ (flt_addL_sub.trans (List.sublist_append_right _ _)) h⟩
    · have h1 := h.2 j (ready_mono hj hji)
      obtain ⟨hjun, oj, hoj, hall⟩ := mem_ready.1 hj
      rw [hoj] at h1 ⊢
      have hnC : ¬ C j := fun hc => hC.not_ready hr hc hj
      have hnot := aft_no (mem_ready.1 hr).1 hj hoj
      have hfree' : ∀ k ok, A[k]? = some ok → k ≠ i → (listed.setIfInBounds j true).getD k true = false → ¬ C k → oi.apart A ok = true ∧ (G ∨ isMild ok.op = true) := fun k ok hk hki hun hnk => by
        refine hfree k ok hk hki ?_ hnk
        by_cases hjk : j = k
        · subst hjk; exact hjun
        · rw [getD_set_ne true hjk] at hun; exact hun
      obtain ⟨hap, hkind⟩ := hfree j oj hoj hji hjun hnC
      obtain ⟨a1, a2, a3⟩ := Oper.apart_spec hap
      have e1 : flt oj (ex ++ addL i oi L) = ex ++ addL i oi (flt oj L) := by
        have : flt oj (ex ++ addL i oi L) = flt oj ex ++ flt oj (addL i oi L) := by simp [flt]
        rw [this, flt_one hex hnot, flt_addL hnot]
      dsimp only at h1
      rw [e1] at h1
      have next : ∀ (u : Value) (H' : Heap), (Sub H H' ∨ G) → chk P E (ex ++ addL i oi (flt oj L)) H' ∧ anyL P E A K fuel (ex ++ addL i oi (flt oj L)) ((listed.setIfInBounds i true).setIfInBounds j true) ((a.put oi.dst v).put oj.dst u) H' →
          chk P E (flt oj L) H' ∧ anyL P E A K (fuel + 1) (flt oj L) (listed.setIfInBounds j true) (a.put oj.dst u) H' := by
        intro u H' hs hh
        have hex' : chk P E ex H' := chk_sub (List.sublist_append_left _ _) hh.1
        have hL' : chk P E (flt oj L) H' := chk_addL.1 (chk_sub (List.sublist_append_right _ _) hh.1)
        refine ⟨hL', ih (flt oj L) (listed.setIfInBounds j true) _ _ C (hC.step hnC) hfree' (ready_mono hr (Ne.symm hji)) hL' (hOk _ _ _ a3 hok) ((hY _ _ _ hok hex' hs hy).put a3) ?_⟩
        rw [Array.setIfInBounds_comm _ _ hji, ← Act.put_comm a v u a2]
        exact hh.2
      dsimp only
      unfold cop at h1 ⊢
      rw [wanted_put oj a oi.dst v a1] at h1
      split
      · rename_i hw
        rw [if_pos hw] at h1
        have h2 := opW_mono (ρ' := ρA a) (fun _ _ h => h) (ρA_put a1) h1
        rcases hkind with hg | hm
        · exact opW_mono (fun u H' hh => next u H' (.inr hg) hh) (fun _ _ _ h => h) h2
        · exact opW_mono (fun u H' hh => next u H' (.inl hh.2) hh.1) (fun _ _ _ h => h) (opW_mild hm h2)
      · rename_i hw
        rw [if_neg hw] at h1
        exact next undef H (.inl (Sub.refl H)) h1

theorem count_set {l : List Bool} {i : Nat} (h : l[i]? = some false) : (l.set i true).count false + 1 = l.count false := by
  induction l generalizing i with
  | nil => simp at h
  | cons x l ih =>
    cases i with
    | zero => simp at h; subst h; simp
    | succ i => simp at h; have := ih h; simp only [List.set_cons_succ, List.count_cons]; omega
theorem count_one {listed : Array Bool} {i : Nat} (h : listed.getD i true = false) : (listed.setIfInBounds i true).toList.count false + 1 = listed.toList.count false := by
  rw [Array.toList_setIfInBounds]
  refine count_set ?_
  rcases Nat.lt_or_ge i listed.size with h' | h'
  · simp [h'] at h ⊢; exact h
  · simp [Array.getElem?_eq_none h'] at h

theorem cop_some {A : Array Oper} {o : Oper} {a : Act} {K : Act → Heap → Prop} (hg : o.guard = none) : cop P E A o K a H ↔ opW P E (ρA a) H o.op fun v H' => K (a.put o.dst v) H' := by
  unfold cop Region.wanted
  rw [hg]; simp

theorem anyL_m {A : Array Oper} {K : Act → Heap → Prop} {i : Nat} {oi : Oper} (hi : A[i]? = some oi) :
    ∀ (fuel : Nat) (L : List Flo) (listed : Array Bool) (a : Act) (H : Heap) (C : Nat → Prop), LateOk A i listed C → listed.toList.count false ≤ fuel + 1 →
      (∀ j oj, A[j]? = some oj → j ≠ i → listed.getD j true = false → ¬ C j → oi.apart A oj = true ∧ isAl oj.op = true ∧ oj.guard = none ∧ (∃ r, alR P (ρA a) oj.op = some r) ∧
        ∀ k ok, A[k]? = some ok → k ≠ i → listed.getD k true = false → ¬ C k → ∀ d, oj.dst = some d → d ∉ ok.looksAt A) →
      i ∈ Region.ready .any A listed → chk P E L H →
      cop P E A oi (fun a' H' => chk P E (flt oi L) H' ∧ anyL P E A K fuel (flt oi L) (listed.setIfInBounds i true) a' H') a H → anyL P E A K (fuel + 1) L listed a H := by
  intro fuel
  induction fuel with
  | zero =>
    intro L listed a H C _ hcnt _ hr hc h
    refine ⟨fun h0 => (by rw [h0] at hr; cases hr), fun j hj => ?_⟩
    by_cases hji : j = i
    · subst hji; rw [hi]; exact h
    · exfalso
      have h1 := count_one (mem_ready.1 hr).1
      have h2 := count_one (mem_ready.1 (ready_mono hj hji)).1
      omega
  | succ fuel ih =>
    intro L listed a H C hC hcnt hlean hr hc h
    refine ⟨fun h0 => (by rw [h0] at hr; cases hr), fun j hj => ?_⟩
    by_cases hji : j = i
    · subst hji; rw [hi]; exact h
    · obtain ⟨hjun, oj, hoj, hall⟩ := mem_ready.1 hj
      rw [hoj]
      have hnC : ¬ C j := fun hc => hC.not_ready hr hc hj
      obtain ⟨hap, hal, hg, ⟨r, hrr⟩, hfar⟩ := hlean j oj hoj hji hjun hnC
      obtain ⟨a1, a2, a3⟩ := Oper.apart_spec hap
      dsimp only
      rw [cop_some hg, al_opW hal]
      refine ⟨r, hrr, fun b hb => ?_⟩
      have hsub := Sub.upd_fresh (Blk.cs r.1 r.2.1) hb
      refine ⟨chk_mono hsub (chk_sub flt_sublist hc), ?_⟩
      have keep : ∀ k, (listed.setIfInBounds j true).getD k true = false → listed.getD k true = false := fun k hk => by
        by_cases hjk : j = k
        · subst hjk; exact hjun
        · rw [getD_set_ne true hjk] at hk; exact hk
      refine ih (flt oj L) (listed.setIfInBounds j true) _ _ C (hC.step hnC) ?_ (fun k ok hk hki hun hnk => ?_) (ready_mono hr (Ne.symm hji)) (chk_mono hsub (chk_sub flt_sublist hc)) ?_
      · have := count_one hjun; omega
      · obtain ⟨b1, b2, b3, ⟨r', hr'⟩, b5⟩ := hlean k ok hk hki (keep k hun) hnk
        exact ⟨b1, b2, b3, ⟨r', alR_mono (ρA_put' (hfar k ok hk hki (keep k hun) hnk)) hr'⟩, fun k' ok' hk' hki' hun' => b5 k' ok' hk' hki' (keep k' hun')⟩
      · -- the operation, with the new block beside it
        have go : ∀ (u : Value) (H1 : Heap), H1 b = none → chk P E (flt oi L) H1 ∧ anyL P E A K (fuel + 1) (flt oi L) (listed.setIfInBounds i true) (a.put oi.dst u) H1 →
            chk P E (flt oi (flt oj L)) (upd H1 b (.cs r.1 r.2.1)) ∧ anyL P E A K fuel (flt oi (flt oj L)) ((listed.setIfInBounds j true).setIfInBounds i true) ((a.put oj.dst (r.2.2 b)).put oi.dst u) (upd H1 b (.cs r.1 r.2.1)) := by
          intro u H1 hb1 hh
          have h2 := hh.2.2 j (ready_mono hj hji)
          rw [hoj] at h2
          dsimp only at h2
          rw [cop_some hg, al_opW hal] at h2
          obtain ⟨r', hr', h2⟩ := h2
          have : r' = r := by
            have := alR_mono (ρ' := ρA a) (ρA_put a1) hr'
            rw [hrr] at this; exact (Option.some.inj this).symm
          subst this
          have h3 := h2 b hb1
          rw [flt_comm] at h3
          refine ⟨h3.1, ?_⟩
          rw [Array.setIfInBounds_comm _ _ hji, ← Act.put_comm a u (r'.2.2 b) a2]
          exact h3.2
        unfold cop at h ⊢
        rw [wanted_put oi a oj.dst _ a3]
        split
        · rename_i hw
          rw [if_pos hw] at h
          have h1 := opW_frame h (.cs r.1 r.2.1) hb
          refine opW_mono (fun u H' hh => ?_) (ρA_put' a3) h1
          obtain ⟨H1, rfl, hb1, hk⟩ := hh
          exact go u H1 hb1 hk
        · rename_i hw
          rw [if_neg hw] at h
          exact go undef H hb h

theorem rdyO_iff {listed : List Bool} {o : Oper} {i : Nat} : rdyO listed o i = (!listed.toArray.getD i true && o.after.all fun e => !Region.binds .any e || listed.toArray.getD e.on false) := by
  unfold rdyO
  rw [lkb_eq]
  have : o.after.toList.all (fun e => !Region.binds .any e || lkb listed e.on false) = o.after.all fun e => !Region.binds .any e || listed.toArray.getD e.on false := by
    rw [← Array.all_toList]
    congr 1; funext e; rw [lkb_eq]; simp
  rw [this]; simp

theorem rdyGo_mem {listed : List Bool} : ∀ (l : List Oper) (k i : Nat), i ∈ rdyGo listed l k ↔ ∃ o, k ≤ i ∧ l[i - k]? = some o ∧ rdyO listed o i = true := by
  intro l
  induction l with
  | nil => intro k i; simp [rdyGo]
  | cons o r ih =>
    intro k i
    simp only [rdyGo]
    have step : (∃ o', k ≤ i ∧ (o :: r)[i - k]? = some o' ∧ rdyO listed o' i = true) ↔ (i = k ∧ rdyO listed o k = true) ∨ ∃ o', k + 1 ≤ i ∧ r[i - (k + 1)]? = some o' ∧ rdyO listed o' i = true := by
      constructor
      · rintro ⟨o', h1, h2, h3⟩
        rcases Nat.eq_or_lt_of_le h1 with e | e
        · subst e; simp at h2; subst h2; exact .inl ⟨rfl, h3⟩
        · right; refine ⟨o', e, ?_, h3⟩
          rw [show i - k = (i - (k + 1)) + 1 from by omega] at h2; simpa using h2
      · rintro (⟨rfl, h⟩ | ⟨o', h1, h2, h3⟩)
        · exact ⟨o, Nat.le_refl _, by simp, h⟩
        · refine ⟨o', by omega, ?_, h3⟩
          rw [show i - k = (i - (k + 1)) + 1 from by omega]; simpa using h2
    rw [step]
    cases h : rdyO listed o k with
    | true => simp only [cond_true, List.mem_cons, ih, and_true]
    | false => simp only [cond_false, ih, and_false, false_or, Bool.false_eq_true]

theorem rdy_mem {ops : List Oper} {listed : List Bool} (i : Nat) : i ∈ Region.ready .any ops.toArray listed.toArray ↔ i ∈ rdyGo listed ops 0 := by
  rw [rdyGo_mem, mem_ready]
  constructor
  · rintro ⟨h1, o, h2, h3⟩
    refine ⟨o, by omega, by simpa using h2, ?_⟩
    rw [rdyO_iff, h1]
    simp only [Bool.not_false, Bool.true_and, Array.all_eq_true']
    intro e he
    by_cases hb : Region.binds .any e = true
    · rw [h3 e he hb]; simp
    · simp [hb]
  · rintro ⟨o, _, h2, h3⟩
    rw [rdyO_iff] at h3
    simp only [Bool.and_eq_true, Bool.not_eq_true', Array.all_eq_true'] at h3
    refine ⟨h3.1, o, by simpa using h2, fun e he hb => ?_⟩
    have := h3.2 e he
    rw [hb] at this; simpa using this

theorem lateGo_len (i : Nat) : ∀ (l : List Oper) (acc : List Bool), (lateGo i l acc).length = acc.length + l.length := by
  intro l
  induction l with
  | nil => intro acc; simp [lateGo]
  | cons o r ih => intro acc; simp only [lateGo, ih, List.length_append, List.length_cons, List.length_nil]; omega

theorem okGo_spec {f : Oper → Nat → Bool} {listed late : List Bool} {i : Nat} : ∀ (l : List Oper) (k : Nat), okGo f listed late i l k = true → ∀ j o, l[j]? = some o → k + j ≠ i → listed.toArray.getD (k + j) true = false →
    (lkb late (k + j) false = true ∧ ∃ e ∈ o.after, Region.binds .any e = true ∧ (e.on = i ∨ (lkb late e.on false = true ∧ listed.toArray.getD e.on true = false ∧ e.on ≠ i))) ∨ (lkb late (k + j) false = false ∧ f o (k + j) = true) := by
  intro l
  induction l with
  | nil => intro k _ j o hj; simp at hj
  | cons o r ih =>
    intro k h j oj hj hne hun
    simp only [okGo, Bool.and_eq_true] at h
    cases j with
    | zero =>
      simp at hj; subst hj
      have h1 := h.1
      simp only [Nat.add_zero] at hne hun ⊢
      rw [lkb_eq] at h1
      have e1 : (k == i) = false := by simpa using hne
      have e2 : listed.getD k true = false := by simpa using hun
      rw [e1, e2] at h1
      simp only [Bool.false_or] at h1
      cases hl : lkb late k false with
      | true =>
        rw [hl] at h1
        simp only [cond_true, List.any_eq_true, Bool.and_eq_true, Bool.or_eq_true, beq_iff_eq, Bool.not_eq_eq_eq_not, Bool.not_true] at h1
        obtain ⟨e, he, hb, hor⟩ := h1
        refine .inl ⟨rfl, e, by simpa using he, hb, hor.imp id fun hh => ⟨hh.1.1, ?_, ?_⟩⟩
        · have := hh.1.2; rw [lkb_eq] at this; simpa using this
        · simpa using hh.2
      | false => rw [hl] at h1; exact .inr ⟨rfl, h1⟩
    | succ j =>
      simp at hj
      rw [show k + (j + 1) = k + 1 + j from by omega] at hne hun ⊢
      exact ih (k + 1) h.2 j oj hj hne hun

theorem okAll_spec {f : Oper → Nat → Bool} {ops : List Oper} {listed : List Bool} {i : Nat} (h : okAll f ops listed i = true) :
    LateOk ops.toArray i listed.toArray (fun j => lkb (lateGo i ops []) j false = true ∧ listed.toArray.getD j true = false ∧ j ≠ i) ∧
    ∀ j oj, ops[j]? = some oj → j ≠ i → listed.toArray.getD j true = false → ¬ (lkb (lateGo i ops []) j false = true ∧ listed.toArray.getD j true = false ∧ j ≠ i) → lkb (lateGo i ops []) j false = false ∧ f oj j = true := by
  refine ⟨fun j hj => ?_, fun j oj hoj hne hun hnC => ?_⟩
  · obtain ⟨h1, h2, h3⟩ := hj
    have hlt : j < ops.length := by
      rw [lkb_eq] at h1
      rcases Nat.lt_or_ge j (lateGo i ops []).length with h' | h'
      · rw [lateGo_len] at h'; simpa using h'
      · rw [List.getD_eq_getElem?_getD, List.getElem?_eq_none h'] at h1; cases h1
    have hoj : ops[j]? = some ops[j] := by simp [hlt]
    refine ⟨h2, h3, ops[j], by simp, ?_⟩
    have := okGo_spec ops 0 h j _ hoj (by simpa using h3) (by simpa using h2)
    rw [Nat.zero_add, h1] at this
    rcases this with ⟨_, e, he, hb, hor⟩ | ⟨h0, _⟩
    · exact ⟨e, he, hb, hor⟩
    · cases h0
  · have := okGo_spec ops 0 h j _ hoj (by simpa using hne) (by simpa using hun)
    rw [Nat.zero_add] at this
    rcases this with ⟨h1, _⟩ | h1
    · exact absurd ⟨h1, hun, hne⟩ hnC
    · exact h1

theorem pick_spec {g : Oper → Bool} {f : Nat → Oper → Oper → Nat → Bool} {ops : List Oper} {listed : List Bool} : ∀ {rs : List Nat} {k : Nat} {o : Oper}, pick g f ops listed rs = some (k, o) → k ∈ rs ∧ ops[k]? = some o ∧ g o = true ∧ okAll (f k o) ops listed k = true := by
  intro rs
  induction rs with
  | nil => intro k o h; cases h
  | cons i r ih =>
    intro k o h
    simp only [pick] at h
    cases hn : nthO ops i with
    | none =>
      simp only [hn] at h
      obtain ⟨a, b⟩ := ih h
      exact ⟨by simp [a], b⟩
    | some oi =>
      simp only [hn] at h
      cases hc : (g oi && okAll (f i oi) ops listed i) with
      | true =>
        rw [hc] at h
        simp only [cond_true, Option.some.injEq, Prod.mk.injEq] at h
        obtain ⟨rfl, rfl⟩ := h
        simp only [Bool.and_eq_true] at hc
        exact ⟨by simp, by rw [← nthO_eq]; exact hn, hc.1, hc.2⟩
      | false =>
        rw [hc] at h
        simp only [cond_false] at h
        obtain ⟨a, b⟩ := ih h
        exact ⟨by simp [a], b⟩
theorem pickM_spec {ops : List Oper} {listed : List Bool} {rs : List Nat} {k : Nat} {o : Oper} (h : pickM ops listed rs = some (k, o)) : k ∈ rs ∧ ops[k]? = some o ∧ okAll (fM ops listed (lateGo k ops []) o) ops listed k = true := by
  unfold pickM at h
  split at h
  · rename_i p hp
    cases h
    obtain ⟨a, b, _, c⟩ := pick_spec hp
    exact ⟨a, b, c⟩
  · obtain ⟨a, b, _, c⟩ := pick_spec h
    exact ⟨a, b, c⟩

theorem dstFree_spec {A : Array Oper} {listed late : List Bool} {d : Nat} : ∀ (l : List Oper) (k : Nat), dstFree A listed late d l k = true → ∀ j o, l[j]? = some o → listed.toArray.getD (k + j) true = false → lkb late (k + j) false = false → d ∉ o.looksAt A := by
  intro l
  induction l with
  | nil => intro k _ j o hj; simp at hj
  | cons o r ih =>
    intro k h j oj hj hun hl
    simp only [dstFree, Bool.and_eq_true] at h
    cases j with
    | zero =>
      simp at hj; subst hj
      have h1 := h.1
      simp only [Nat.add_zero] at hun hl
      rw [lkb_eq, show listed.getD k true = false by simpa using hun, hl] at h1
      simpa using h1
    | succ j =>
      simp at hj
      rw [show k + (j + 1) = k + 1 + j from by omega] at hun hl
      exact ih (k + 1) h.2 j oj hj hun hl

theorem chkK_spec {K : Prop} {H : Heap} : ∀ {L : List Flo}, chkK P E H K L → chk P E L H ∧ K
  | [], h => ⟨fun f hf => (by cases hf), h⟩
  | f :: r, h => by
    obtain ⟨u, hu, rfl, h'⟩ := ev_iff.1 h
    obtain ⟨h1, h2⟩ := chkK_spec h'
    refine ⟨fun g hg => ?_, h2⟩
    rcases List.mem_cons.1 hg with rfl | hg
    · exact hu
    · exact h1 g hg

theorem alCs_spec {ρ : Operand → Option Value} {listed late : List Bool} {i : Nat} {K : Prop} : ∀ (l : List Oper) (k : Nat), alCs P ρ listed late i l k K → K ∧ ∀ j o, l[j]? = some o → k + j ≠ i → listed.toArray.getD (k + j) true = false → lkb late (k + j) false = false → ∃ r, alR P ρ o.op = some r := by
  intro l
  induction l with
  | nil => intro k h; exact ⟨h, fun j o hj => by simp at hj⟩
  | cons o r ih =>
    intro k h
    simp only [alCs] at h
    cases hc : (k == i || lkb listed k true || lkb late k false) with
    | true =>
      rw [hc] at h
      simp only [cond_true] at h
      obtain ⟨h1, h2⟩ := ih _ h
      refine ⟨h1, fun j oj hj hne hun hl => ?_⟩
      cases j with
      | zero =>
        simp only [Nat.add_zero] at hne hun hl
        rw [lkb_eq, show listed.getD k true = false by simpa using hun, hl, show (k == i) = false by simpa using hne] at hc
        cases hc
      | succ j =>
        simp at hj
        rw [show k + (j + 1) = k + 1 + j from by omega] at hne hun hl
        exact h2 j oj hj hne hun hl
    | false =>
      rw [hc] at h
      simp only [cond_false] at h
      obtain ⟨h0, h⟩ := alC_spec h
      obtain ⟨h1, h2⟩ := ih _ h
      refine ⟨h1, fun j oj hj hne hun hl => ?_⟩
      cases j with
      | zero => simp at hj; subst hj; exact h0
      | succ j =>
        simp at hj
        rw [show k + (j + 1) = k + 1 + j from by omega] at hne hun hl
        exact h2 j oj hj hne hun hl

theorem yielded_eq (a : Act) (j : Nat) : yielded ops.toArray a.tmps j = match (match dstAt ops j with | some d => a.tmps[d]? | none => none) with | some (.bool b) => some b | _ => none := by
  unfold yielded dstAt
  rw [nthO_eq]
  simp only [List.getElem?_toArray]
  cases ops[j]? with
  | none => rfl
  | some oj => simp only [Option.bind_some]; cases oj.dst <;> first | rfl | (simp only [Option.bind_none, Option.bind_some]; rfl) | simp only [Option.bind_none, Option.bind_some]

theorem gd_spec {a : Act} {o : Oper} {W U : Env → Prop} (h : EnvOk α a.tmps) (hv : gd ops o W U α) :
    (Region.wanted o (yielded ops.toArray a.tmps) = true ∧ ∃ α', EnvOk α' a.tmps ∧ W α') ∨ (Region.wanted o (yielded ops.toArray a.tmps) = false ∧ ∃ α', EnvOk α' a.tmps ∧ U α') := by
  unfold gd at hv
  unfold Region.wanted
  split at hv
  · rename_i hg; simp only [hg]; exact .inl ⟨trivial, α, h, hv⟩
  · rename_i j want hg
    simp only [hg]
    rw [yielded_eq]
    split at hv
    · rename_i hd
      simp only [hd]
      exact .inr ⟨rfl, α, h, hv⟩
    · rename_i d hd
      simp only [hd]
      split at hv
      · rename_i c hc
        have e1 := h.val d (.bool c) (by rw [hc]; rfl)
        rw [e1]
        split at hv
        · exact .inl ⟨rfl, α, h, hv⟩
        · exact .inl ⟨rfl, α, h, hv⟩
        · exact .inr ⟨rfl, α, h, hv⟩
        · exact .inr ⟨rfl, α, h, hv⟩
      · rename_i x hx
        have e1 := h.val d x (by rw [hx]; rfl)
        rw [e1]
        have ht : x = .bool true → EnvOk (st α d (.b true)) a.tmps := fun hh => h.refine d _ fun u hu => by cases hu; rw [e1, hh]
        have hf : x = .bool false → EnvOk (st α d (.b false)) a.tmps := fun hh => h.refine d _ fun u hu => by cases hu; rw [e1, hh]
        split at hv
        · obtain ⟨⟨c, rfl⟩, h1, h2⟩ := hv
          cases c
          · exact .inr ⟨rfl, _, hf rfl, h2 rfl⟩
          · exact .inl ⟨rfl, _, ht rfl, h1 rfl⟩
        · obtain ⟨⟨c, rfl⟩, h1, h2⟩ := hv
          cases c
          · exact .inl ⟨rfl, _, hf rfl, h2 rfl⟩
          · exact .inr ⟨rfl, _, ht rfl, h1 rfl⟩
      · exact hv.elim
      · rename_i hx
        have e1 := h.val d undef (by rw [hx]; rfl)
        rw [e1]
        exact .inr ⟨by simp [undef], α, h, hv⟩

theorem allR_spec {f : Nat → Oper → Prop} {ops : List Oper} : ∀ {rs : List Nat}, allR f ops rs → ∀ i ∈ rs, ∃ o, ops[i]? = some o ∧ f i o
  | [], _, i, hi => by cases hi
  | [x], h, i, hi => by
    simp at hi; subst hi
    simp only [allR, nthO_eq] at h
    cases ho : ops[i]? with
    | none => simp [ho] at h
    | some o => rw [ho] at h; exact ⟨o, rfl, h⟩
  | x :: y :: r, h, i, hi => by
    simp only [allR, nthO_eq] at h
    rcases List.mem_cons.1 hi with rfl | hi
    · cases ho : ops[i]? with
      | none => simp [ho] at h
      | some o => simp only [ho] at h; exact ⟨o, rfl, h.1⟩
    · exact allR_spec h.2 i hi

theorem ready_nil {ops : List Oper} {listed : List Bool} (h : rdyGo listed ops 0 = []) : Region.ready .any ops.toArray listed.toArray = [] := by
  cases hr : Region.ready .any ops.toArray listed.toArray with
  | nil => rfl
  | cons i r => have := (rdy_mem (ops := ops) (listed := listed) i).1 (by rw [hr]; simp); rw [h] at this; cases this

theorem isLd_isR {op : Op} (h : isLd op = true) : isR op = true := by cases op <;> first | rfl | cases h
theorem vregL_any : ∀ (n : Nat) (L : List Flo) (listed : List Bool) (α : Env) (H : Heap) (a : Act), EnvOk α a.tmps → listed.count false ≤ n → chk P E L H → vregL P E ops K n L listed α H → anyL P E ops.toArray (Post K) n L listed.toArray a H := by
  intro n
  induction n with
  | zero =>
    intro L listed α H a he _ _ h
    simp only [vregL] at h
    split at h
    · rename_i hr; exact ⟨ready_nil hr, α, he, h⟩
    · exact h.elim
  | succ n ih =>
    intro L listed α H a he hcnt hchk h
    simp only [vregL] at h
    have hset : ∀ k, (stb listed k).toArray = listed.toArray.setIfInBounds k true := fun k => by rw [stb_eq]; simp
    have hless : ∀ k, k ∈ Region.ready .any ops.toArray listed.toArray → (stb listed k).count false ≤ n := fun k hk => by
      have := count_one (mem_ready.1 hk).1
      have e : (stb listed k).count false = (listed.toArray.setIfInBounds k true).toList.count false := by rw [← hset]
      rw [e]
      have : listed.toArray.toList.count false = listed.count false := by simp
      omega
    split at h
    · rename_i hr
      refine ⟨fun _ => ⟨α, he, h⟩, fun i hi => ?_⟩
      rw [ready_nil hr] at hi; cases hi
    · rename_i i r hr
      have hne : Region.ready .any ops.toArray listed.toArray ≠ [] := fun h0 => by
        have := (rdy_mem (ops := ops) (listed := listed) i).2 (by rw [hr]; simp)
        rw [h0] at this; cases this
      have hin : ∀ k, k ∈ i :: r → k ∈ Region.ready .any ops.toArray listed.toArray := fun k hk => (rdy_mem k).2 (by rw [hr]; exact hk)
      -- an operation in its own time
      have via : ∀ k o, k ∈ Region.ready .any ops.toArray listed.toArray → vop P E ops o (fun α' H' => chkK P E H' (vregL P E ops K n (flt o L) (stb listed k) α' H') (flt o L)) α H →
          cop P E ops.toArray o (fun a' H' => chk P E (flt o L) H' ∧ anyL P E ops.toArray (Post K) n (flt o L) (listed.toArray.setIfInBounds k true) a' H') a H := fun k o hk hv => by
        refine cop_mono (fun a' H' hp => ?_) (vop_cop he hv)
        obtain ⟨α', he', hv'⟩ := hp
        obtain ⟨c1, c2⟩ := chkK_spec hv'
        have := ih _ _ _ _ _ he' (hless k hk) c1 c2
        rw [hset] at this; exact ⟨c1, this⟩
      split at h
      · rename_i k o hp
        obtain ⟨p1, p2, p3, p4⟩ := pick_spec hp
        obtain ⟨q1, q2⟩ := okAll_spec p4
        have hready := hin k p1
        have hc : cop P E ops.toArray o (fun a' H' => Post (vregL P E ops K n (addL k o L) (stb listed k)) a' H') a H := vop_cop he h
        have : ∃ v, YieldsC P E ops.toArray H o v a ∧ anyL P E ops.toArray (Post K) n (addL k o L) (listed.toArray.setIfInBounds k true) (a.put o.dst v) H := by
          have fin : ∀ v, Post (vregL P E ops K n (addL k o L) (stb listed k)) (a.put o.dst v) H → anyL P E ops.toArray (Post K) n (addL k o L) (listed.toArray.setIfInBounds k true) (a.put o.dst v) H := fun v hv => by
            obtain ⟨α', he', hv'⟩ := hv
            have := ih _ _ _ _ _ he' (hless k hready) (chk_addL.2 hchk) hv'
            rw [hset] at this; exact this
          unfold cop at hc
          by_cases hw : Region.wanted o (yielded ops.toArray a.tmps) = true
          · rw [if_pos hw, isR_opW p3] at hc
            obtain ⟨v, h1, h2⟩ := ev_iff.1 hc
            exact ⟨v, .inl ⟨hw, h1⟩, fin v h2⟩
          · rw [if_neg hw] at hc
            exact ⟨undef, .inr ⟨by simpa using hw, rfl⟩, fin _ hc⟩
        obtain ⟨v, hy, hn⟩ := this
        refine anyL_first (v := v) (i := k) (oi := o) (by simpa using p2) p3 (isP o.op = true) (fun _ => True) [] (by simp) (fun _ _ _ _ _ => trivial)
          (fun a' H1 H2 _ _ hor hy' => hor.elim (fun s => hy'.sub s) fun hp => hy'.any _ hp) n L listed.toArray a H _ q1 (fun j oj hoj hji hun hnC => ?_) hready hchk trivial hy hn
        have := (q2 j oj (by simpa using hoj) hji hun hnC).2
        simp only [fFree, Bool.and_eq_true, Bool.or_eq_true] at this
        exact this
      · split at h
        · rename_i k o hp
          obtain ⟨p1, p2, p3, p4⟩ := pick_spec hp
          obtain ⟨q1, q2⟩ := okAll_spec p4
          have hready := hin k p1
          have hR : isR o.op = true := isLd_isR p3
          have hap : ∀ j oj, ops.toArray[j]? = some oj → j ≠ k → listed.toArray.getD j true = false → ¬ (lkb (lateGo k ops []) j false = true ∧ listed.toArray.getD j true = false ∧ j ≠ k) → o.apart ops.toArray oj = true := fun j oj hoj hji hun hnC =>
            (q2 j oj (by simpa using hoj) hji hun hnC).2
          rcases gd_spec he h with ⟨hw, α', he', hW⟩ | ⟨hw, α', he', hU⟩
          · obtain ⟨v, hv, hW⟩ := ev_iff.1 hW
            have hρ : ∀ x ∈ o.op.operands.toList, ∀ u, EvO α' x = some u → ρA a x = some u := fun x _ u hu => by
              have := entO_ok he' (x := x) (v := u) hu
              simp [ρA, this]
            have hy : YieldsC P E ops.toArray H o v a := .inl ⟨hw, opR_mono (Sub.refl H) hρ hv⟩
            have hn := ih _ _ _ _ (a.put o.dst v) (he'.put o.dst (.v v) v (fun u hu => by cases hu; rfl)) (hless k hready) (fun f hf => by
              rcases List.mem_cons.1 hf with rfl | hf
              · exact hv
              · exact (chk_addL (i := k) (oi := o)).2 hchk f hf) hW
            rw [hset] at hn
            refine anyL_first (v := v) (i := k) (oi := o) (by simpa using p2) hR True (fun a' => Region.wanted o (yielded ops.toArray a'.tmps) = true ∧ ∀ x ∈ o.op.operands.toList, ∀ u, EvO α' x = some u → ρA a' x = some u) [⟨[k], o.op, EvO α', v⟩] (by simp) (fun a1 dst u hd hok => ⟨?_, fun x hx u' hu' => ρA_put' hd x hx u' (hok.2 x hx u' hu')⟩)
              (fun a1 H1 H2 hok hc _ _ => .inl ⟨hok.1, opR_mono (Sub.refl H2) hok.2 (hc ⟨[k], o.op, EvO α', v⟩ (by simp))⟩) n L listed.toArray a H _ q1 (fun j oj hoj hji hun hnC => ⟨hap j oj hoj hji hun hnC, .inl trivial⟩) hready hchk ⟨hw, hρ⟩ hy hn
            rw [wanted_put (ops := ops.toArray) o a1 dst u hd]; exact hok.1
          · have hy : YieldsC P E ops.toArray H o undef a := .inr ⟨hw, rfl⟩
            have hn := ih _ _ _ _ (a.put o.dst undef) (he'.put o.dst .nd undef (fun u hu => by cases hu; rfl)) (hless k hready) (chk_addL.2 hchk) hU
            rw [hset] at hn
            refine anyL_first (v := undef) (i := k) (oi := o) (by simpa using p2) hR True (fun a' => Region.wanted o (yielded ops.toArray a'.tmps) = false) [] (by simp) (fun a1 dst u hd hok => ?_)
              (fun a1 H1 H2 hok _ _ _ => .inr ⟨hok, rfl⟩) n L listed.toArray a H _ q1 (fun j oj hoj hji hun hnC => ⟨hap j oj hoj hji hun hnC, .inl trivial⟩) hready hchk hw hy hn
            rw [wanted_put (ops := ops.toArray) o a1 dst u hd]; exact hok
        · split at h
          · rename_i k o hp
            obtain ⟨p1, p2, p4⟩ := pickM_spec hp
            obtain ⟨q1, q2⟩ := okAll_spec p4
            obtain ⟨hv, hal⟩ := alCs_spec _ _ h
            refine anyL_m (by simpa using p2) n L listed.toArray a H _ q1 (by simpa using hcnt) (fun j oj hoj hji hun hnC => ?_) (hin k p1) hchk (via k o (hin k p1) hv)
            have hoj' : ops[j]? = some oj := by simpa using hoj
            obtain ⟨hl, hf⟩ := q2 j oj hoj' hji hun hnC
            simp only [fM, Bool.and_eq_true] at hf
            obtain ⟨⟨⟨⟨f1, f2⟩, f3⟩, _⟩, f5⟩ := hf
            obtain ⟨r', hr'⟩ := hal j oj hoj' (by simpa using hji) (by simpa using hun) (by simpa using hl)
            refine ⟨f1, f2, by simpa using f3, ⟨r', alR_mono (fun x _ u hu => ?_) hr'⟩, fun k' ok' hk' hki' hun' hnC' d hd => ?_⟩
            · have := entO_ok he (x := x) (v := u) hu
              simp [ρA, this]
            · rw [hd] at f5
              have hk2 : ops[k']? = some ok' := by simpa using hk'
              have := (q2 k' ok' hk2 hki' hun' hnC').1
              exact dstFree_spec ops 0 f5 k' ok' hk2 (by simpa using hun') (by simpa using this)
          · refine ⟨fun h0 => absurd h0 hne, fun j hj => ?_⟩
            have hj' := (rdy_mem j).1 hj
            rw [hr] at hj'
            obtain ⟨o, ho, hv⟩ := allR_spec h j hj'
            rw [show ops.toArray[j]? = some o from by simpa using ho]
            exact via j o hj hv

theorem vreg_any (n : Nat) (listed : List Bool) (α : Env) (H : Heap) (a : Act) (hn : listed.count false ≤ n) (he : EnvOk α a.tmps) (h : vreg P E ops K n listed α H) : anyC P E ops.toArray (Post K) n listed.toArray a H :=
  anyL_anyC _ _ _ _ _ (vregL_any n [] listed α H a he hn (fun f hf => by cases hf) h)
end
end Go.Sl
namespace Go.Sl
open Go

/-- What the caller's loops over functions have laid, held beside all else that is to stay. -/
def FM (F : Heap) (M : List Nat) : Heap := fun b => if b ∈ M then some (.ob (.deferred (some []))) else F b

structure Ws (a : Act) (w : World) (H F : Heap) (M : List Nat) : Prop where
  satH : Sat w H
  satF : Sat w F
  dis : Dis H F
  defs : a.defers.map (·.target) = M.map .collected
  marks : ∀ r ∈ M, w.heap[r]? = some (.deferred (some [])) ∧ H r = none ∧ F r = none
  nodup : M.Nodup

theorem St.ws {a : Act} {w : World} {α : Env} {H F : Heap} {M : List Nat} (s : St a w α H F M) : Ws a w H F M := ⟨s.satH, s.satF, s.dis, s.defs, s.marks, s.nodup⟩
theorem Ws.st {a : Act} {w : World} {α : Env} {H F : Heap} {M : List Nat} (s : Ws a w H F M) (h : EnvOk α a.tmps) : St a w α H F M := ⟨h, s.satH, s.satF, s.dis, s.defs, s.marks, s.nodup⟩
theorem Ws.fm {a : Act} {w : World} {H F : Heap} {M : List Nat} (s : Ws a w H F M) : Sat w (FM F M) ∧ Dis H (FM F M) := by
  constructor
  · intro b k hb
    unfold FM at hb
    split at hb
    · rename_i hm; cases hb; exact ⟨(s.marks b hm).1, on_ob⟩
    · exact s.satF b k hb
  · intro b
    unfold FM
    split
    · rename_i hm; exact .inl (s.marks b hm).2.1
    · exact s.dis b
theorem Ws.of_fm {a a' : Act} {w w' : World} {H H' F : Heap} {M : List Nat} (s : Ws a w H F M) (hd : a'.defers = a.defers) (h1 : Sat w' H') (h2 : Sat w' (FM F M)) (h3 : Dis H' (FM F M)) : Ws a' w' H' F M := by
  have key : ∀ b k, F b = some k → FM F M b = some k := fun b k hb => by
    unfold FM; split
    · rename_i hm; rw [(s.marks b hm).2.2] at hb; cases hb
    · exact hb
  refine ⟨h1, fun b k hb => h2 b k (key b k hb), fun b => ?_, by rw [hd]; exact s.defs, fun r hr => ⟨(h2 r (.ob (.deferred (some []))) (by simp [FM, hr])).1, ?_, (s.marks r hr).2.2⟩, s.nodup⟩
  · rcases h3 b with h | h
    · exact .inl h
    · right
      cases hF : F b with
      | none => rfl
      | some k => rw [key b k hF] at h; cases h
  · exact (h3 r).resolve_right (by simp [FM, hr])
theorem Ws.put {a : Act} {w : World} {H F : Heap} {M : List Nat} (s : Ws a w H F M) (dst : Option Nat) (v : Value) : Ws (a.put dst v) w H F M := by
  have : (a.put dst v).defers = a.defers := by cases dst <;> rfl
  exact ⟨s.satH, s.satF, s.dis, by rw [this]; exact s.defs, s.marks, s.nodup⟩
theorem put_defers (a : Act) (dst : Option Nat) (v : Value) : (a.put dst v).defers = a.defers := by cases dst <;> rfl

def noDef (l : List Oper) : Bool := l.all fun o => match o.op with | .defer _ => false | _ => true

section
variable {P : Program} {E : List TypeId} {r : Option Nat}

theorem upon_ok {o : Oper} {a : Act} {w : World} {H F : Heap} {M : List Nat} {K : Value → Heap → Prop} {next : Act → World → Prop} {Qx : Exit → Act → World → Prop} (s : Ws a w H F M)
    {res : Result Next} (h : ResOk P (FM F M) K res) (hn : ∀ v w' H', K v H' → Ws (a.put o.dst v) w' H' F M → next (a.put o.dst v) w') : o.uponIn (Fr r) 0 P a next Qx res := by
  have fin : ∀ v w' H', K v H' → Sat w' H' → Sat w' (FM F M) → Dis H' (FM F M) → next (a.put o.dst v) w' := fun v w' H' k a1 a2 a3 =>
    hn v w' H' k (s.of_fm (put_defers a o.dst v) a1 a2 a3)
  have hdep : (Fr r).depth.isSome = true → 1 ≤ 0 := fun h => by rw [Fr_depth] at h; cases h
  unfold ResOk at h
  split at h
  · obtain ⟨H', a1, a2, a3, k⟩ := h; exact fin _ _ H' k a1 a2 a3
  · obtain ⟨H', a1, a2, a3, k⟩ := h; exact fin _ _ H' k a1 a2 a3
  · rename_i f args w'
    refine ⟨hdep, ?_⟩
    have : CallsIn (Fr r) (0 - 1) P f args w' (Fin (FM F M) K) := by cases r <;> exact h
    refine this.mono ?_
    rintro e w'' ⟨v, H', rfl, a1, a2, a3, k⟩
    exact fin v w'' H' k a1 a2 a3
  · rename_i l f tmps asg body w'
    refine ⟨hdep, ?_⟩
    have : RoundIn (Fr r) (0 - 1) P l f tmps asg body w' (Fin (FM F M) K) := by cases r <;> exact h
    refine this.mono ?_
    rintro e w'' ⟨v, H', rfl, a1, a2, a3, k⟩
    exact fin v w'' H' k a1 a2 a3
  · exact h.elim

theorem cop_wp {A : Array Oper} (hE : EOk P E) {i : Nat} {o : Oper} (ho : A[i]? = some o) (hdf : ∀ c, o.op ≠ .defer c) {a : Act} {w : World} {H F : Heap} {M : List Nat} {K : Act → Heap → Prop} {K' : Act → World → Prop} {Qx : Exit → Act → World → Prop}
    (s : Ws a w H F M) (h : cop P E A o K a H) (hk : ∀ a' w' H', Ws a' w' H' F M → K a' H' → K' a' w') : wpOpIn (Fr r) 0 P A Qx i K' a w := by
  unfold wpOpIn
  rw [ho]
  dsimp only
  unfold cop at h
  split
  · rename_i hw
    rw [if_pos hw] at h
    refine ⟨fun f _ => Fr_fn _ _, ?_⟩
    rw [Fr_round, Oper.semAt_eq _ _ _ hdf]
    have := opW_ok (ρc := a.eval) hE (fun x v hx => by simpa [ρA] using hx) o h w (FM F M) s.satH s.fm.1 s.fm.2
    exact upon_ok s this fun v w' H' k ws => hk _ _ _ ws k
  · rename_i hw
    rw [if_neg hw] at h
    exact ⟨fun f _ => Fr_fn _ _, hk _ _ _ (s.put _ _) h⟩

theorem anyC_wp {A : Array Oper} (hE : EOk P E) (hdf : noDef A.toList = true) {K : Act → Heap → Prop} {Qx : Exit → Act → World → Prop} {F : Heap} (hQ : ∀ a w H M, Ws a w H F M → K a H → Qx .normal a w) :
    ∀ (n : Nat) (listed : Array Bool) (a : Act) (w : World) (H : Heap) (M : List Nat), Ws a w H F M → anyC P E A K n listed a H → wpAnyIn (Fr r) 0 P .any A Qx n listed a w := by
  intro n
  induction n with
  | zero => intro listed a w H M s h; exact ⟨h.1, hQ a w H M s h.2⟩
  | succ n ih =>
    intro listed a w H M s h
    refine ⟨fun h0 => hQ a w H M s (h.1 h0), fun i hi => ?_⟩
    have := h.2 i hi
    cases ho : A[i]? with
    | none =>
      rw [ho] at this
      unfold wpOpIn
      rw [ho]
      exact ih _ a w H M s this
    | some o =>
      rw [ho] at this
      refine cop_wp hE ho (fun c hc => ?_) s this fun a' w' H' ws k => ih _ a' w' H' M ws k
      have h1 := List.all_eq_true.1 hdf o (by
        obtain ⟨hlt, e⟩ := Array.getElem?_eq_some_iff.1 ho
        rw [← e]; simp)
      rw [hc] at h1; cases h1

theorem V_draw (hE : EOk P E) (hm : P.follows .mixedOrders = true) {id : Nat} {ops : Array Oper} {Q : Exit → Env → Heap → Prop} {α : Env} {H : Heap} (hdf : noDef ops.toList = true)
    (h : vreg P E ops.toList (Q .normal) ops.toList.length (List.replicate ops.toList.length false) α H) : V P r (.region id ops true) Q α H := fun a w F M s => by
  refine wpIn_region_any hm ?_
  have hw : Ws a { w with drawn := w.drawn + 1 } H F M := ⟨s.satH, s.satF, s.dis, s.defs, s.marks, s.nodup⟩
  have := vreg_any (P := P) (E := E) (ops := ops.toList) ops.toList.length _ α H a (by simp) s.env h
  have h2 := anyC_wp (r := r) (Qx := Aft F Q) hE (A := ops) (by simpa using hdf) (K := Post (Q .normal)) (F := F) (fun a w H M ws ⟨α', he, q⟩ => ⟨α', H, M, ws.st he, q⟩) ops.size (Array.replicate ops.size false) a _ H M hw (by
    simpa using this)
  exact h2

theorem vops_wp (hE : EOk P E) {ops : List Oper} (hdf : noDef ops = true) {Q : Exit → Env → Heap → Prop} {F : Heap} : ∀ (l : List Oper) (k : Nat) (α : Env) (H : Heap) (a : Act) (w : World) (M : List Nat), (∀ j, l[j]? = ops[k + j]?) → St a w α H F M →
    vops P E ops l (Q .normal) α H → wpOpsIn (Fr r) 0 P ops.toArray (Aft F Q) (List.range' k l.length) a w := by
  intro l
  induction l with
  | nil => intro k α H a w M _ s h; exact ⟨α, H, M, s, h⟩
  | cons o l ih =>
    intro k α H a w M hl s h
    have h0 : ops.toArray[k]? = some o := by have := hl 0; simpa using this.symm
    rw [List.length_cons, List.range'_succ, wpOpsIn_cons]
    refine cop_wp hE h0 (fun c hc => ?_) s.ws (vop_cop s.env h) fun a' w' H' ws ⟨α', he, hk⟩ => ih (k + 1) α' H' a' w' M (fun j => by have := hl (j + 1); simpa [Nat.add_assoc, Nat.add_comm 1 j] using this) (ws.st he) hk
    have h1 := List.all_eq_true.1 hdf o (by
      have : ops[k]? = some o := by simpa using h0
      exact List.mem_of_getElem? this)
    rw [hc] at h1; cases h1

theorem V_text (hE : EOk P E) {id : Nat} {ops : Array Oper} {Q : Exit → Env → Heap → Prop} {α : Env} {H : Heap} (hdf : noDef ops.toList = true)
    (h : vops P E ops.toList ops.toList (Q .normal) α H) : V P r (.region id ops false) Q α H := fun a w F M s => by
  refine wpIn_region ?_
  have := vops_wp (r := r) hE hdf ops.toList 0 α H a w M (by simp) s h
  rw [List.range_eq_range', ← Array.length_toList]
  simpa using this

/-- A branch tells what its condition was. -/
def refO (α : Env) (c : Operand) (b : Bool) : Env := match c with | .tmp t => st α t (.b b) | _ => α

theorem V_cond {c : Operand} {x y : Code} {Q : Exit → Env → Heap → Prop} {α : Env} {H : Heap} {v : Value} (hc : (entO α c).val = some v) (hb : ∃ b, v = .bool b)
    (ht : v = .bool true → V P r x Q (refO α c true) H) (hf : v = .bool false → V P r y Q (refO α c false) H) : V P r (.cond c x y) Q α H := fun a w F M s => by
  obtain ⟨b, rfl⟩ := hb
  have e1 := entO_ok s.env hc
  refine wpIn_cond (t := b) e1 ?_
  have he : ∀ b', b' = b → EnvOk (refO α c b') a.tmps := by
    intro b' hb'; subst hb'
    unfold refO
    cases c with
    | tmp t => exact s.env.refine t _ fun u hu => by cases hu; exact s.env.val t _ hc
    | _ => exact s.env
  cases b
  · exact hf rfl a w F M ⟨he _ rfl, s.satH, s.satF, s.dis, s.defs, s.marks, s.nodup⟩
  · exact ht rfl a w F M ⟨he _ rfl, s.satH, s.satF, s.dis, s.defs, s.marks, s.nodup⟩

/-! ### Functions -/
def resV (P : Program) (α : Env) (H : Heap) : List ResultVar → Option (List Value)
  | [] => some []
  | .tmp t :: l => match (lk α t).val with
    | some v => match resV P α H l with | some vs => some (v :: vs) | none => none
    | none => none
  | .cell a t :: l => match (lk α a).val with
    | some p => match (match P.underlying t with | some d => (match aggD d with | true => ob (szT P t) fun n => ldn n H p | false => ld1 H p) | none => none) with
      | some v => match resV P α H l with | some vs => some (v :: vs) | none => none
      | none => none
    | none => none
def pack : List Value → Value
  | [v] => v
  | l => .tuple l.toArray

def resS (tmps : Array Value) : ResultVar → Sem Value
  | .tmp t => pure (tmps.getD t undef)
  | .cell a t => do loadVar t (← asAddr (tmps.getD a undef))

theorem resV_run {α : Env} {H : Heap} {tmps : Array Value} {w : World} (he : EnvOk α tmps) (s : Sat w H) : ∀ (l : List ResultVar) (vs : List Value), resV P α H l = some vs →
    (l.mapM (resS tmps)).run P w = .ok vs w
  | [], vs, h => by simp [resV] at h; subst h; simp
  | .tmp t :: l, vs, h => by
    simp only [resV] at h
    cases h1 : (lk α t).val with
    | none => simp [h1] at h
    | some v =>
      cases h2 : resV P α H l with
      | none => simp [h1, h2] at h
      | some vs' =>
        simp only [h1, h2, Option.some.injEq] at h
        subst h
        have e1 := he.val t v h1
        have e2 : tmps.getD t undef = v := by simp [e1]
        simp only [List.mapM_cons, resS, Sem.run_bind, Sem.run_pure, Result.andThen_ok, e2, resV_run he s l vs' h2]
  | .cell a t :: l, vs, h => by
    simp only [resV] at h
    cases h1 : (lk α a).val with
    | none => simp [h1] at h
    | some p =>
      simp only [h1] at h
      split at h
      · rename_i v hv
        cases h2 : resV P α H l with
        | none => simp [h2] at h
        | some vs' =>
          simp only [h2, Option.some.injEq] at h
          subst h
          have e2 : tmps.getD a undef = p := by simp [he.val a p h1]
          split at hv
          · rename_i d hd
            have hl := load_run hd s hv
            cases p <;> (try (unfold Instr.loadAt Instr.sureAddr at hl; simp at hl; done))
            rename_i pa
            cases pa with
            | none => unfold Instr.loadAt Instr.sureAddr at hl; simp at hl
            | some ad =>
              have hl' : (loadVar t ad).run P w = .ok v w := by
                unfold Instr.loadAt Instr.sureAddr at hl
                simpa only [Sem.run_bind, Sem.run_pure, Result.andThen_ok] using hl
              simp only [List.mapM_cons, resS, Sem.run_bind, e2, asAddr, Sem.run_pure, Result.andThen_ok, hl', resV_run he s l vs' h2]
          · cases hv
      · cases h

/-- What must hold where the body ends. -/
def resW (P : Program) (α : Env) (H : Heap) : List ResultVar → (List Value → Prop) → Prop
  | [], K => K []
  | .tmp t :: l, K => ev (lk α t).val fun v => resW P α H l fun vs => K (v :: vs)
  | .cell a t :: l, K => ev (lk α a).val fun p => match P.underlying t with
    | some d => match aggD d with
      | true => ev (szT P t) fun n => ev (ldn n H p) fun v => resW P α H l fun vs => K (v :: vs)
      | false => ev (ld1 H p) fun v => resW P α H l fun vs => K (v :: vs)
    | none => False
theorem resW_resV {α : Env} {H : Heap} : ∀ {l : List ResultVar} {K : List Value → Prop}, resW P α H l K → ∃ vs, resV P α H l = some vs ∧ K vs
  | [], K, h => ⟨[], rfl, h⟩
  | .tmp t :: l, K, h => by
    obtain ⟨v, hv, h⟩ := ev_iff.1 h
    obtain ⟨vs, h1, h2⟩ := resW_resV h
    exact ⟨v :: vs, by simp only [resV, hv, h1], h2⟩
  | .cell a t :: l, K, h => by
    obtain ⟨p, hp, h⟩ := ev_iff.1 h
    split at h
    · rename_i d hd
      split at h
      · rename_i hag
        obtain ⟨n, hn, h⟩ := ev_iff.1 h
        obtain ⟨v, hv, h⟩ := ev_iff.1 h
        obtain ⟨vs, h1, h2⟩ := resW_resV h
        exact ⟨v :: vs, by simp only [resV, hp, hd, hag, hn, ob, hv, h1], h2⟩
      · rename_i hag
        obtain ⟨v, hv, h⟩ := ev_iff.1 h
        obtain ⟨vs, h1, h2⟩ := resW_resV h
        exact ⟨v :: vs, by simp only [resV, hp, hd, hag, hv, h1], h2⟩
    · exact h.elim
def retQ (P : Program) (rs : List ResultVar) (Q : Value → Heap → Prop) : Exit → Env → Heap → Prop
  | .normal, α, H => resW P α H rs fun vs => Q (pack vs) H
  | .ret, α, H => resW P α H rs fun vs => Q (pack vs) H
  | .exit _, _, _ => False
  | .goto _, _, _ => False
  | .panic _, _, _ => False
  | .outgrown, _, _ => False

theorem results_run {fn : Func} {α : Env} {H : Heap} {tmps : Array Value} {w : World} {vs : List Value} (he : EnvOk α tmps) (s : Sat w H) (h : resV P α H fn.results.toList = some vs) : (results fn tmps).run P w = .ok (pack vs) w := by
  show (fn.results.mapM (resS tmps) >>= fun vs => pure (if h : vs.size = 1 then vs[0] else .tuple vs)).run P w = _
  rw [Array.mapM_eq_mapM_toList]
  have := resV_run (P := P) he s fn.results.toList vs h
  simp only [Sem.run_bind, Sem.run_map, this, Result.andThen_ok, Sem.run_pure]
  congr 1
  match vs with
  | [] => rfl
  | [v] => rfl
  | a :: b :: l => simp [pack]

theorem leaves {fn : Func} {α : Env} {H F : Heap} {Q : Value → Heap → Prop} {tmps : Array Value} {vs : List Value} (he : EnvOk α tmps) (h : resV P α H fn.results.toList = some vs) (q : Q (pack vs) H) :
    ∀ (ds : List Deferred) (M : List Nat) (w : World), ds.map (·.target) = M.map .collected → (∀ r ∈ M, w.heap[r]? = some (.deferred (some [])) ∧ H r = none ∧ F r = none) → M.Nodup → Sat w H → Sat w F → Dis H F →
      LeavesInM Fence.wide 0 P fn tmps (Fin F Q) ds .returning w := by
  intro ds
  induction ds with
  | nil =>
    intro M w hds hM hn s f d
    exact ⟨_, results_run he s h, _, H, rfl, s, f, d, q⟩
  | cons d ds ih =>
    intro M w hds hM hn s f dd
    cases M with
    | nil => simp at hds
    | cons m M =>
      simp only [List.map_cons, List.cons.injEq] at hds
      obtain ⟨h1, h2, h3⟩ := hM m (by simp)
      refine ⟨by simp, .inl ⟨m, { w with heap := w.heap.setIfInBounds m (.deferred none) }, hds.1, ?_, ?_⟩⟩
      · have hg : (getObj m).run P w = .ok (.deferred (some [])) w := by simp only [getObj, Sem.run, h1]
        have hs : (setObj m (.deferred none)).run P w = .ok () { w with heap := w.heap.setIfInBounds m (.deferred none) } := by simp only [setObj, Sem.run, h1]
        simp only [Instr.takeDeferred, Sem.run_bind, hg, Result.andThen_ok, hs, Sem.run_pure]
      · obtain ⟨hn1, hn2⟩ := List.nodup_cons.1 hn
        have keep : ∀ b, b ≠ m → (w.heap.setIfInBounds m (.deferred none))[b]? = w.heap[b]? := fun b hb => by rw [Array.getElem?_setIfInBounds_ne (Ne.symm hb)]
        refine ih M _ hds.2 (fun r hr => ?_) hn2 (fun b k hb => ?_) (fun b k hb => ?_) dd
        · have hne : r ≠ m := fun e => hn1 (e ▸ hr)
          obtain ⟨a1, a2, a3⟩ := hM r (by simp [hr])
          exact ⟨by rw [keep r hne]; exact a1, a2, a3⟩
        · have hne : b ≠ m := fun e => by subst e; rw [h2] at hb; cases hb
          refine ⟨?_, (s b k hb).2⟩
          show (w.heap.setIfInBounds m _)[b]? = _
          rw [keep b hne]; exact (s b k hb).1
        · have hne : b ≠ m := fun e => by subst e; rw [h3] at hb; cases hb
          refine ⟨?_, (f b k hb).2⟩
          show (w.heap.setIfInBounds m _)[b]? = _
          rw [keep b hne]; exact (f b k hb).1

/-- The temporaries at the begin. -/
def env0 (args : List Value) (n : Nat) : Env := args.map .v ++ List.replicate (n - args.length) (.v undef)

theorem env0_ok (args : List Value) (n : Nat) : EnvOk (env0 args n) (args.toArray ++ Array.replicate (n - args.toArray.size) undef) := by
  have key : ∀ (l : List Value) (m : Nat), EnvOk (l.map .v ++ List.replicate m (.v undef)) (l.toArray ++ Array.replicate m undef) := by
    intro l m
    refine ⟨by simp, fun i v hv => ?_⟩
    have hlk : ∀ (α : Env) (i : Nat), lk α i = α.getD i .un := by
      intro α; induction α with
      | nil => intro i; cases i <;> simp [lk]
      | cons x r ih => intro i; cases i <;> simp [lk, ih]
    rw [hlk] at hv
    simp only [List.getD_eq_getElem?_getD] at hv
    rw [Array.getElem?_append]
    simp only [List.size_toArray, List.getElem?_toArray]
    by_cases hi : i < l.length
    · rw [if_pos hi]
      rw [List.getElem?_append_left (by simpa using hi)] at hv
      simp only [List.getElem?_map] at hv
      rw [List.getElem?_eq_getElem hi] at hv ⊢
      simpa [Ent.val] using hv
    · rw [if_neg hi]
      rw [List.getElem?_append_right (by simpa using hi)] at hv
      simp only [List.length_map, List.getElem?_replicate] at hv
      by_cases hj : i - l.length < m
      · rw [if_pos hj] at hv; simp [Ent.val] at hv; subst hv; simp [hj]
      · rw [if_neg hj] at hv; simp [Ent.val] at hv
  have := key args (n - args.length)
  simpa [env0] using this

theorem enters_of {f : FuncId} {fn : Func} {c : Code} (hf : P.funcs[f]? = some fn) (hb : fn.body = some c) (hname : (fn.name == "runtime.NumGoroutine") = false) : Enters P f := fun as w => by
  unfold callFunc
  simp only [Sem.run_bind, run_program, Result.andThen_ok, hf, hname, Bool.false_eq_true, if_false, hb, Option.isNone, Sem.run_pure]
/-- A function's triple, from its body. -/
theorem T_of_V {f : FuncId} {fn : Func} {c : Code} {args : List Value} {H : Heap} {Q : Value → Heap → Prop} (hf : P.funcs[f]? = some fn) (hb : fn.body = some c) (hname : (fn.name == "runtime.NumGoroutine") = false)
    (h : V P none c (retQ P fn.results.toList Q) (env0 args fn.ntmps) H) : T P f args H Q := by
  refine .inl ⟨enters_of hf hb hname, fun w F s hF d => ?_⟩
  · refine callsIn_of_wp_marks hf hb trivial ?_
    refine wpIn_mono (h _ w F [] ⟨env0_ok args fn.ntmps, s, hF, d, rfl, (fun _ hr => by cases hr), List.nodup_nil⟩) ?_
    rintro e a w' ⟨α, H', M, st', q⟩
    have fin : resW P α H' fn.results.toList (fun vs => Q (pack vs) H') → LeavesInM Fence.wide 0 P fn a.tmps (Fin F Q) a.defers .returning w' := fun q => by
      obtain ⟨vs, hv, q⟩ := resW_resV q
      exact leaves st'.env hv q a.defers M w' st'.defs st'.marks st'.nodup st'.satH st'.satF st'.dis
    cases e with
    | normal => exact fin q
    | ret => exact fin q
    | exit i => exact q.elim
    | goto l => exact q.elim
    | panic c => exact q.elim
    | outgrown => exact q.elim
end
end Go.Sl
namespace Go.Sl
open Go

def lpR (rc : Loop) : Blk := .ob (.loop { rc with state := .ready, pending := none })
def lpB (rc : Loop) : Blk := .ob (.loop { rc with state := .busy, pending := none })
def lpD (rc : Loop) (c : Code) : Blk := .ob (.loop { rc with state := .done, pending := some c })
def ers (H : Heap) (l : Nat) : Heap := fun b => if b = l then none else H b

def setPs (α : Env) : List Nat → List Value → Env
  | t :: ts, v :: vs => setPs (st α t (.v v)) ts vs
  | _, _ => α

/-- How a round ends. -/
def endQ (l : Nat) (rc : Loop) (R : Value → Heap → Prop) : Exit → Env → Heap → Prop
  | .normal, _, H => H l = some (lpB rc) ∧ R (.bool true) (upd H l (lpR rc))
  | .ret, _, H => H l = some (lpB rc) ∧ R (.bool false) (upd H l (lpD rc .ret))
  | .exit i, _, H => H l = some (lpB rc) ∧ R (.bool false) (upd H l (lpD rc (.exit i)))
  | .goto t, _, H => H l = some (lpB rc) ∧ R (.bool false) (upd H l (lpD rc (.goto t)))
  | .panic _, _, _ => False
  | .outgrown, _, _ => False

/-- What the statement comes to behind the call: on behind it; out by 'return'; out by one of these exits. -/
def exQ (l : Nat) (rc : Loop) (H : Heap) : List (Nat × (Heap → Prop)) → Prop
  | [] => False
  | (i, f) :: r => (H l = some (lpD rc (.exit i)) ∧ f (ers H l)) ∨ exQ l rc H r
def aftQ (l : Nat) (rc : Loop) (aN aR : Heap → Prop) (es : List (Nat × (Heap → Prop))) (H : Heap) : Prop :=
  (H l = some (lpR rc) ∧ aN (ers H l)) ∨ (H l = some (lpD rc .ret) ∧ aR (ers H l)) ∨ exQ l rc H es

def ap0 (f : Prop) : List Value → Prop
  | [] => f
  | _ => False
def ap1 (f : Value → Prop) : List Value → Prop
  | [a] => f a
  | _ => False
def ap2 (f : Value → Value → Prop) : List Value → Prop
  | [a, b] => f a b
  | _ => False
def apN : Nat → (List Value → Prop) → List Value → Prop
  | 0, F => ap0 (F [])
  | 1, F => ap1 fun a => F [a]
  | 2, F => ap2 fun a b => F [a, b]
  | _, _ => fun _ => False
theorem apN_spec {n : Nat} {F : List Value → Prop} {args : List Value} (h : apN n F args) : F args ∧ args.length = n := by
  unfold apN at h
  split at h
  · cases args with
    | nil => exact ⟨h, rfl⟩
    | cons a r => exact h.elim
  · rcases args with _ | ⟨a, _ | ⟨b, r⟩⟩
    · exact h.elim
    · exact ⟨h, rfl⟩
    · exact h.elim
  · rcases args with _ | ⟨a, _ | ⟨b, _ | ⟨c, r⟩⟩⟩
    · exact h.elim
    · exact h.elim
    · exact ⟨h, rfl⟩
    · exact h.elim
  · exact h.elim

/-- It has a body. -/
def bodied (P : Program) (k : FuncId) : Bool := match P.funcs[k]? with
  | some fn => fn.body.isSome && !(fn.name == "runtime.NumGoroutine")
  | none => false
theorem bodied_enters {P : Program} {k : FuncId} (h : bodied P k = true) : Enters P k := by
  unfold bodied at h
  split at h
  · rename_i fn hf
    simp only [Bool.and_eq_true, Bool.not_eq_true'] at h
    obtain ⟨c, hc⟩ := Option.isSome_iff_exists.1 h.1
    exact enters_of hf hc h.2
  · cases h
def rfW (P : Program) (gv : Value) (H : Heap) (round : Nat → Loop → List Value → Heap → (Value → Heap → Prop) → Prop) (aN aR : Heap → Prop) (es : List (Nat × (Heap → Prop))) : Prop :=
  match gv with
  | .func (.func k) first cap => bodied P k = true ∧ ∀ (l : Nat) (rc : Loop), H l = none →
      (∀ (args : List Value) (H1 : Heap) (R : Value → Heap → Prop), H1 l = some (lpR rc) → round l rc args H1 R → Yd P l args H1 R) →
      T P k (first.toList ++ [.func (.yield l) #[] #[]] ++ cap.toList) (upd H l (lpR rc)) fun _ H' => aftQ l rc aN aR es H'
  | _ => False

section
variable {P : Program}

theorem getLoop_run {w : World} {l : Nat} {r : Loop} (h : w.heap[l]? = some (.loop r)) : (Instr.getLoop l).run P w = .ok r w := by
  have hg : (getObj l).run P w = .ok (.loop r) w := by simp only [getObj, Sem.run, h]
  simp only [Instr.getLoop, Sem.run_bind, hg, Result.andThen_ok, Sem.run_pure]
theorem setLoop_run {w : World} {l : Nat} {r r' : Loop} (h : w.heap[l]? = some (.loop r)) : (setObj l (.loop r')).run P w = .ok () { w with heap := w.heap.setIfInBounds l (.loop r') } := by
  simp only [setObj, Sem.run, h]

theorem sat_set {w : World} {H : Heap} {l : Nat} {o : Obj} {k : Blk} (s : Sat w H) (hl : H l = some k) : Sat { w with heap := w.heap.setIfInBounds l o } (upd H l (.ob o)) := fun b x hb => by
  unfold upd at hb
  have hlt : l < w.heap.size := (Array.getElem?_eq_some_iff.1 (s l k hl).1).1
  split at hb
  · rename_i e; subst e; cases hb; exact ⟨by simp [Blk.obj, hlt], on_ob⟩
  · rename_i e
    refine ⟨?_, (s b x hb).2⟩
    show (w.heap.setIfInBounds l o)[b]? = _
    rw [Array.getElem?_setIfInBounds_ne (Ne.symm e)]; exact (s b x hb).1
theorem sat_set_other {w : World} {F : Heap} {l : Nat} {o : Obj} (s : Sat w F) (hl : F l = none) : Sat { w with heap := w.heap.setIfInBounds l o } F := fun b x hb => by
  have e : b ≠ l := fun e => by subst e; rw [hl] at hb; cases hb
  refine ⟨?_, (s b x hb).2⟩
  show (w.heap.setIfInBounds l o)[b]? = _
  rw [Array.getElem?_setIfInBounds_ne (Ne.symm e)]; exact (s b x hb).1
theorem ers_sub {H : Heap} {l : Nat} : Sub (ers H l) H := fun b k h => by
  unfold ers at h; split at h
  · cases h
  · exact h
theorem ers_same {H : Heap} {l : Nat} : ers H l l = none := by simp [ers]

theorem setPs_ok {α : Env} {t : Array Value} (h : EnvOk α t) : ∀ (ps : List Nat) (vs : List Value), EnvOk (setPs α ps vs) ((ps.zip vs).foldl (fun t p => t.setIfInBounds p.1 p.2) t)
  | [], vs => by simpa [setPs] using h
  | p :: ps, [] => by simpa [setPs] using h
  | p :: ps, v :: vs => by
    simp only [setPs, List.zip_cons_cons, List.foldl_cons]
    have := h.put (a := ⟨t, []⟩) (some p) (.v v) v (fun u hu => by cases hu; rfl)
    exact setPs_ok this ps vs

theorem round_ok {l : Nat} {rc : Loop} {α : Env} {asg body : Code} {ps : Array Tmp} {args : List Value} {H1 : Heap} {R : Value → Heap → Prop}
    (hrc : rc.params = ps ∧ rc.assign = asg ∧ rc.body = body) (he : EnvOk α rc.tmps) (hn : args.length = ps.toList.length) (hl : H1 l = some (lpR rc))
    (h : V P (some l) asg (then_ (fun α1 H2 => H2 l = some (lpR rc) ∧ V P (some l) body (endQ l rc R) α1 (upd H2 l (lpB rc))) (fun _ _ _ => False)) (setPs α ps.toList args) H1) : Yd P l args H1 R := by
  obtain ⟨rfl, rfl, rfl⟩ := hrc
  intro w F s f d
  have hw := (s l _ hl).1
  refine ⟨rc.fn, (rc.params.zip args.toArray).foldl (fun tmps (t, a) => tmps.setIfInBounds t a) rc.tmps, rc.assign, rc.body, ?_, ?_⟩
  · simp only [Instr.yield, Sem.run_bind, getLoop_run hw, Result.andThen_ok]
    rw [if_neg (by simpa using hn)]
    simp only [Sem.run_pure]
  · refine roundIn_of_wpIn trivial ?_
    have he' : EnvOk (setPs α rc.params.toList args) ((rc.params.zip args.toArray).foldl (fun tmps (x : Tmp × Value) => match x with | (t, a) => tmps.setIfInBounds t a) rc.tmps) := by
      have := setPs_ok he rc.params.toList args
      rw [← Array.foldl_toList, Array.toList_zip]
      exact this
    refine wpIn_mono (h ⟨_, []⟩ w F [] ⟨he', s, f, d, rfl, (fun _ hr => by cases hr), List.nodup_nil⟩) ?_
    rintro e a1 w1 ⟨α1, H2, M, st1, q⟩
    cases e with
    | normal =>
      obtain ⟨hl2, hb⟩ := q
      have hw1 := (st1.satH l _ hl2).1
      refine ⟨{ w1 with heap := w1.heap.setIfInBounds l (.loop { rc with state := .busy, pending := none }) }, ?_, ?_⟩
      · simp only [Instr.beginRound, Sem.run_bind, getLoop_run hw1, Result.andThen_ok, setLoop_run hw1, Sem.run_pure]
      · have hFl : F l = none := (st1.dis l).resolve_left (by rw [hl2]; simp)
        have st2 : St a1 { w1 with heap := w1.heap.setIfInBounds l (.loop { rc with state := .busy, pending := none }) } α1 (upd H2 l (lpB rc)) F M := by
          refine ⟨st1.env, sat_set st1.satH hl2, sat_set_other st1.satF hFl, dis_upd st1.dis hFl, st1.defs, fun r hr => ?_, st1.nodup⟩
          obtain ⟨m1, m2, m3⟩ := st1.marks r hr
          have hne : r ≠ l := fun e => by subst e; rw [hl2] at m2; cases m2
          refine ⟨?_, by rw [upd_ne hne]; exact m2, m3⟩
          show (w1.heap.setIfInBounds l _)[r]? = _
          rw [Array.getElem?_setIfInBounds_ne (Ne.symm hne)]; exact m1
        refine wpIn_mono (hb a1 _ F M st2) ?_
        rintro e a2 w3 ⟨α2, H3, M3, st3, q3⟩
        have fin : ∀ (jump : Option Code) (v : Bool) (k : Blk), v = jump.isNone → k = .ob (.loop { rc with state := if jump.isNone then .ready else .done, pending := jump }) → H3 l = some (lpB rc) → R (.bool v) (upd H3 l k) →
            ∃ v w', (Instr.endRound l jump).run P w3 = .ok v w' ∧ Fin F R (.returned v) w' := by
          intro jump v k hv hk h3 hR
          have hw3 := (st3.satH l _ h3).1
          have hFl3 : F l = none := (st3.dis l).resolve_left (by rw [h3]; simp)
          refine ⟨.bool jump.isNone, { w3 with heap := w3.heap.setIfInBounds l (.loop { rc with state := (if jump.isNone then .ready else .done), pending := jump }) }, ?_, .bool jump.isNone, upd H3 l k, rfl, ?_, ?_, dis_upd st3.dis hFl3, by rw [← hv]; exact hR⟩
          · simp only [Instr.endRound, Sem.run_bind, getLoop_run hw3, Result.andThen_ok, setLoop_run hw3, Sem.run_pure]
          · rw [hk]; exact sat_set st3.satH h3
          · exact sat_set_other st3.satF hFl3
        cases e with
        | normal => exact fin none true (lpR rc) rfl rfl q3.1 q3.2
        | ret => exact fin (some .ret) false (lpD rc .ret) rfl rfl q3.1 q3.2
        | exit i => exact fin (some (.exit i)) false (lpD rc (.exit i)) rfl rfl q3.1 q3.2
        | goto t => exact fin (some (.goto t)) false (lpD rc (.goto t)) rfl rfl q3.1 q3.2
        | panic c => exact q3.elim
        | outgrown => exact q3.elim
    | exit i => exact q.elim
    | goto t => exact q.elim
    | ret => exact q.elim
    | panic c => exact q.elim
    | outgrown => exact q.elim

theorem V_rangeFunc {g : Operand} {ps : Array Tmp} {asg body : Code} {Q : Exit → Env → Heap → Prop} {α : Env} {H : Heap} {gv : Value} (hg : (entO α g).val = some gv)
    {aN aR : Heap → Prop} {es : List (Nat × (Heap → Prop))} (hN : ∀ H, aN H → Q .normal α H) (hR : ∀ H, aR H → Q .ret α H) (hes : ∀ p ∈ es, ∀ H, p.2 H → Q (.exit p.1) α H)
    (h : rfW P gv H (fun l rc args H1 R => args.length = ps.toList.length ∧ V P (some l) asg (then_ (fun α1 H2 => H2 l = some (lpR rc) ∧ V P (some l) body (endQ l rc R) α1 (upd H2 l (lpB rc))) (fun _ _ _ => False)) (setPs α ps.toList args) H1)
      aN aR es) : V P none (.rangeFunc g ps asg body) Q α H := by
  intro a w F M s
  refine wpIn_rangeFunc fun fn _ => ?_
  have e1 := entO_ok s.env hg
  unfold rfW at h
  split at h
  case h_2 => exact h.elim
  case h_1 k first cap =>
    let r0 := w.heap.size
    let w0 : World := { w with heap := w.heap.push (.deferred (some [])) }
    let rc : Loop := { state := .ready, pending := none, fn, tmps := a.tmps, params := ps, assign := asg, body, defers := r0 }
    let l := w0.heap.size
    let w1 : World := { w0 with heap := w0.heap.push (.loop rc) }
    have hlr : l = r0 + 1 := by simp [l, w0, r0]
    have hH0 : H r0 = none := s.satH.fresh
    have hF0 : F r0 = none := s.satF.fresh
    have s0H : Sat w0 H := sat_push s.satH _
    have s0F : Sat w0 F := sat_push s.satF _
    have hHl : H l = none := s0H.fresh
    have hFl : F l = none := s0F.fresh
    have hM : ∀ r ∈ M, r < r0 := fun r hr => (Array.getElem?_eq_some_iff.1 (s.marks r hr).1).1
    have hM' : l ∉ r0 :: M := by
      intro hm
      rcases List.mem_cons.1 hm with e | e
      · omega
      · have := hM l e; omega
    have hr0 : w1.heap[r0]? = some (.deferred (some [])) := by
      show ((w.heap.push _).push _)[r0]? = _
      rw [Array.getElem?_push]
      rw [if_neg (by simp [r0])]
      simp [r0]
    have ws0 : Ws { a with defers := { target := .collected r0, args := #[] } :: a.defers } w1 (upd H l (lpR rc)) F (r0 :: M) := by
      refine ⟨?_, sat_push s0F _, dis_upd s.dis hFl, by simp [s.defs], fun r hr => ?_, ?_⟩
      · have := sat_push_upd s0H (lpR rc); exact this
      · have hne : r ≠ l := fun e => hM' (e ▸ hr)
        rcases List.mem_cons.1 hr with rfl | hr
        · exact ⟨hr0, by rw [upd_ne hne]; exact hH0, hF0⟩
        · obtain ⟨m1, m2, m3⟩ := s.marks r hr
          refine ⟨?_, by rw [upd_ne hne]; exact m2, m3⟩
          have h1 := hM r hr
          show ((w.heap.push _).push _)[r]? = _
          rw [Array.getElem?_push, if_neg (by simp; omega), Array.getElem?_push, if_neg (by simp only [r0] at h1; omega)]
          exact m1
      · refine List.nodup_cons.2 ⟨fun hm => ?_, s.nodup⟩
        have := hM r0 hm; omega
    have hT := (h.2 l rc hHl (fun args H1 R hl1 hr => round_ok (P := P) (l := l) (rc := rc) ⟨rfl, rfl, rfl⟩ (α := α) s.env hr.1 hl1 hr.2)).resolve_right fun hh => by
      obtain ⟨v, w', H', hrun, _⟩ := hh w1 (FM F (r0 :: M)) ws0.satH ws0.fm.1 ws0.fm.2
      rw [bodied_enters h.1] at hrun; cases hrun
    refine ⟨l, [{ target := .collected r0, args := #[] }], w1, { target := .fn (.func k) cap, args := first ++ #[.func (.yield l) #[] #[]] }, w1, k, (first ++ #[.func (.yield l) #[] #[]]) ++ cap, w1, ?_, ?_, ?_, ?_, ?_, ?_⟩
    · show (Instr.enterLoop fn a.tmps ps asg body none).run P w = _
      simp only [Instr.enterLoop, Sem.run_bind, run_newObj, Result.andThen_ok, Sem.run_pure]
      rfl
    · show (resolve a.eval { callee := .value g, args := #[.const (.func (.yield l) #[] #[])], argTypes := #[] } 0).run P w1 = _
      have e2 : (#[Operand.const (Value.func (Fn.yield l) #[] #[])] : Array Operand).map a.eval = #[Value.func (Fn.yield l) #[] #[]] := by simp [Act.eval]
      simp only [resolve, e1, e2, Deferred.ofValue, Sem.run_pure]
    · intro f' _; exact trivial
    · exact hT.1 _ _
    · intro hd; exact absurd hd (by simp [Fr, Fence.wide])
    · have hargs : (first ++ #[Value.func (.yield l) #[] #[]]) ++ cap = (first.toList ++ [Value.func (.yield l) #[] #[]] ++ cap.toList).toArray := by apply Array.toList_inj.1; simp
      rw [hargs]
      refine (hT.2 w1 (FM F (r0 :: M)) ws0.satH ws0.fm.1 ws0.fm.2).mono ?_
      rintro e w3 ⟨v, H', rfl, a1, a2, a3, q⟩
      have ws3 : Ws { a with defers := [{ target := .collected r0, args := #[] }] ++ a.defers } w3 H' F (r0 :: M) := ws0.of_fm rfl a1 a2 a3
      have fin : ∀ (lo : Loop), H' l = some (.ob (.loop lo)) → (lo.state == .busy) = false → ∃ w4, (Instr.endLoop l).run P w3 = .ok lo.pending w4 ∧ St { a with defers := [{ target := .collected r0, args := #[] }] ++ a.defers } w4 α (ers H' l) F (r0 :: M) := by
        intro lo hl' hb
        have hw := (ws3.satH l _ hl').1
        refine ⟨{ w3 with heap := w3.heap.setIfInBounds l (.loop { lo with state := .exhausted }) }, ?_, ?_⟩
        · simp only [Instr.endLoop, Sem.run_bind, getLoop_run hw, Result.andThen_ok, hb, Bool.false_eq_true, if_false, Sem.run_pure, setLoop_run hw]
        · refine ⟨s.env, sat_set_other (ws3.satH.sub ers_sub) ers_same, sat_set_other ws3.satF hFl, ws3.dis.sub ers_sub, ws3.defs, fun r hr => ?_, ws3.nodup⟩
          obtain ⟨m1, m2, m3⟩ := ws3.marks r hr
          have hne : r ≠ l := fun e => hM' (e ▸ hr)
          refine ⟨?_, by unfold ers; rw [if_neg hne]; exact m2, m3⟩
          show (w3.heap.setIfInBounds l _)[r]? = _
          rw [Array.getElem?_setIfInBounds_ne (Ne.symm hne)]; exact m1
      rcases q with ⟨q1, q2⟩ | ⟨q1, q2⟩ | q
      · obtain ⟨w4, h1, h2⟩ := fin _ q1 rfl
        exact ⟨none, w4, h1, ⟨α, _, _, h2, hN _ q2⟩⟩
      · obtain ⟨w4, h1, h2⟩ := fin _ q1 rfl
        exact ⟨some .ret, w4, h1, wpIn_ret ⟨α, _, _, h2, hR _ q2⟩⟩
      · have key : ∀ es : List (Nat × (Heap → Prop)), exQ l rc H' es → ∃ p ∈ es, H' l = some (lpD rc (.exit p.1)) ∧ p.2 (ers H' l) := by
          intro es
          induction es with
          | nil => exact fun h => h.elim
          | cons p r ih =>
            rintro (h | h)
            · exact ⟨p, by simp, h⟩
            · obtain ⟨q, hq, h2⟩ := ih h; exact ⟨q, by simp [hq], h2⟩
        obtain ⟨p, hp, q1, q2⟩ := key es q
        obtain ⟨w4, h1, h2⟩ := fin _ q1 rfl
        exact ⟨some (.exit p.1), w4, h1, wpIn_exit ⟨α, _, _, h2, hes p hp _ q2⟩⟩
end
end Go.Sl
namespace Go.Sl
open Go

/-- What the walk is told of a piece of code: which temporaries live on at a loop's head, at a label, where ways meet. -/
inductive Ann where
  | n
  | s (a b : Ann)
  | j (live : List Nat) (a b : Ann)
  | l (live : List Nat) (a : Ann)
  | c (a b : Ann)
  | k (a : Ann)
  | g (ls : List (Nat × List Nat)) (a : Ann)
  | r (ex : List Nat) (a b : Ann)

def allV : Nat → (List Value → Prop) → Prop
  | 0, f => f []
  | n + 1, f => ∀ v, allV n fun vs => f (v :: vs)
def getAll (α : Env) : List Nat → Option (List Value)
  | [] => some []
  | t :: ts => match (lk α t).val with
    | some v => match getAll α ts with | some vs => some (v :: vs) | none => none
    | none => none
def mkE (α : Env) : List Nat → List Value → Env
  | t :: ts, v :: vs => mkE (st α t (.v v)) ts vs
  | _, _ => α
def unE : Nat → Env
  | 0 => []
  | n + 1 => .un :: unE n
def mkEnv (n : Nat) (live : List Nat) (vs : List Value) : Env := mkE (unE n) live vs
def lenE : Env → Nat
  | [] => 0
  | _ :: r => lenE r + 1

/-- All that live on, of temporaries of which there are n. -/
def gets (n : Nat) (live : List Nat) (α : Env) : Option (List Value) := bif Nat.beq (lenE α) n then getAll α live else none

inductive Md where
  | no
  | sg (frm : Option Nat) (J : Nat → Env → Heap → Prop)
def Md.nx : Md → Md
  | .no => .no
  | .sg _ J => .sg none J

def findL : List (Nat × List Nat) → Nat → Option (List Nat)
  | [], _ => none
  | (l, live) :: r, k => if l = k then some live else findL r k
def JJ (n : Nat) (J : Nat → List Value → Heap → Prop) (ls : List (Nat × List Nat)) (l : Nat) (α : Env) (H : Heap) : Prop :=
  match findL ls l with
  | some live => ev (gets n live α) fun vs => J l vs H
  | none => False
def impL : List (Nat × List Nat) → (Nat → List Nat → Prop) → Prop → Prop
  | [], _, G => G
  | (l, live) :: r, f, G => f l live → impL r f G
def nodB : List Nat → Bool
  | [] => true
  | x :: r => !r.contains x && nodB r
def labsOk (c : Code) (ls : List (Nat × List Nat)) : Bool := nodB (labs c) && (ls.all fun p => hasL c p.1) && nodB (ls.map (·.1))

def exs (Q : Exit → Env → Heap → Prop) (α : Env) : List Nat → List (Nat × (Heap → Prop))
  | [] => []
  | i :: r => (i, fun H' => Q (.exit i) α H') :: exs Q α r

def mdOf (md : Md) (x y : Code) : Md := match md with
  | .no => .no
  | .sg none J => match (labs x ++ labs y).isEmpty with
    | true => .no
    | false => .sg none J
  | .sg (some l) J => .sg (some l) J
def jok (md : Md) (y : Code) : Bool := match md with
  | .no => true
  | .sg _ _ => (labs y).isEmpty
def goesIn (md : Md) (x : Code) : Bool := match md with
  | .sg (some l) _ => hasL x l
  | _ => true

def vcg (P : Program) (E : List TypeId) : Code → Ann → Md → Option Nat → (Exit → Env → Heap → Prop) → Env → Heap → Prop
  | .skip, _, _, _, Q, α, H => Q .normal α H
  | .label l, _, md, _, Q, α, H => match md with
    | .sg none J => J l α H
    | _ => Q .normal α H
  | .exit i, _, _, _, Q, α, H => Q (.exit i) α H
  | .goto l, _, _, _, Q, α, H => Q (.goto l) α H
  | .ret, _, _, _, Q, α, H => Q .ret α H
  | .refuse _, _, _, _, _, _, _ => False
  | .region _ ops draw, _, _, _, Q, α, H => match noDef ops.toList with
    | false => False
    | true => match draw with
      | false => vops P E ops.toList ops.toList (Q .normal) α H
      | true => vreg P E ops.toList (Q .normal) ops.toList.length (List.replicate ops.toList.length false) α H
  | .cond c x y, ann, _, r, Q, α, H => match ann with
    | .c a b => match entO α c with
      | .b true => vcg P E x a .no r Q α H
      | .b false => vcg P E y b .no r Q α H
      | .v v => Br v (vcg P E x a .no r Q (refO α c true) H) (vcg P E y b .no r Q (refO α c false) H)
      | .un => False
      | .nd => False
    | _ => match entO α c with
      | .b true => vcg P E x .n .no r Q α H
      | .b false => vcg P E y .n .no r Q α H
      | .v v => Br v (vcg P E x .n .no r Q (refO α c true) H) (vcg P E y .n .no r Q (refO α c false) H)
      | .un => False
      | .nd => False
  | .block id c, ann, _, r, Q, α, H => match ann with
    | .k a => vcg P E c a .no r (inBlk id Q) α H
    | _ => vcg P E c .n .no r (inBlk id Q) α H
  | .loop c, ann, _, r, Q, α, H => match ann with
    | .l live a => ∀ I : List Value → Heap → Prop,
        (∀ H', allV live.length fun vs => vcg P E c a .no r (then_ (fun α' H'' => ev (gets (lenE α) live α') fun vs' => I vs' H'') Q) (mkEnv (lenE α) live vs) H' → I vs H') →
        ev (gets (lenE α) live α) fun vs => I vs H
    | _ => False
  | .seq x y, ann, md, r, Q, α, H =>
    match goesIn (mdOf md x y) x with
    | false => match ann with
      | .s _ b => vcg P E y b (mdOf md x y) r Q α H
      | .j _ _ b => vcg P E y b (mdOf md x y) r Q α H
      | _ => vcg P E y .n (mdOf md x y) r Q α H
    | true => match ann with
      | .s a b => vcg P E x a (mdOf md x y) r (then_ (vcg P E y b (mdOf md x y).nx r Q) Q) α H
      | .j live a b => match jok (mdOf md x y) y with
        | true => ∀ K : List Value → Heap → Prop, (∀ H', allV live.length fun vs => vcg P E y b .no r Q (mkEnv (lenE α) live vs) H' → K vs H') →
          vcg P E x a (mdOf md x y) r (then_ (fun α' H' => ev (gets (lenE α) live α') fun vs => K vs H') Q) α H
        | false => False
      | _ => vcg P E x .n (mdOf md x y) r (then_ (vcg P E y .n (mdOf md x y).nx r Q) Q) α H
  | .scope c, ann, _, r, Q, α, H => match ann with
    | .g ls a => match labsOk c ls with
      | true => ∀ J : Nat → List Value → Heap → Prop,
          impL ls (fun l live => ∀ H', allV live.length fun vs => vcg P E c a (.sg (some l) (JJ (lenE α) J ls)) r (jmp c (JJ (lenE α) J ls) Q) (mkEnv (lenE α) live vs) H' → J l vs H')
            (vcg P E c a (.sg none (JJ (lenE α) J ls)) r (jmp c (JJ (lenE α) J ls) Q) α H)
      | false => False
    | _ => False
  | .rangeFunc g ps asg body, ann, _, r, Q, α, H => match ann, r with
    | .r ex a b, none => ev (entO α g).val fun gv => rfW P gv H
        (fun l rc args H1 R => apN ps.toList.length (fun as => vcg P E asg a .no (some l) (then_ (fun α1 H2 => H2 l = some (lpR rc) ∧ vcg P E body b .no (some l) (endQ l rc R) α1 (upd H2 l (lpB rc))) (fun _ _ _ => False)) (setPs α ps.toList as) H1) args)
        (fun H' => Q .normal α H') (fun H' => Q .ret α H') (exs Q α ex)
    | _, _ => False

section
variable {P : Program} {E : List TypeId}

theorem lenE_eq (α : Env) : lenE α = α.length := by induction α with | nil => rfl | cons x r ih => simp [lenE, ih]
theorem unE_eq (n : Nat) : unE n = List.replicate n .un := by induction n with | zero => rfl | succ n ih => simp [unE, ih, List.replicate_succ]
theorem lk_un (n i : Nat) : lk (unE n) i = .un := by
  induction n generalizing i with
  | zero => rfl
  | succ n ih => cases i <;> simp [unE, lk, ih]
theorem allV_spec {n : Nat} {f : List Value → Prop} (h : allV n f) : ∀ vs : List Value, vs.length = n → f vs := by
  induction n generalizing f with
  | zero => intro vs hl; rw [List.eq_nil_of_length_eq_zero hl]; exact h
  | succ n ih =>
    intro vs hl
    cases vs with
    | nil => simp at hl
    | cons v vs => exact ih (h v) vs (by simpa using hl)
theorem allV_mk {n : Nat} {f : List Value → Prop} (h : ∀ vs : List Value, vs.length = n → f vs) : allV n f := by
  induction n generalizing f with
  | zero => exact h [] rfl
  | succ n ih => intro v; exact ih fun vs hl => h (v :: vs) (by simp [hl])
theorem getAll_length {α : Env} {live : List Nat} {vs : List Value} (h : getAll α live = some vs) : vs.length = live.length := by
  induction live generalizing vs with
  | nil => simp [getAll] at h; subst h; rfl
  | cons t ts ih =>
    simp only [getAll] at h
    cases h1 : (lk α t).val with
    | none => simp [h1] at h
    | some v =>
      cases h2 : getAll α ts with
      | none => simp [h1, h2] at h
      | some vs' => simp only [h1, h2, Option.some.injEq] at h; subst h; simp [ih h2]
theorem mkE_ok {α : Env} {t : Array Value} (h : EnvOk α t) : ∀ (live : List Nat) (vs : List Value) (β : Env), getAll α live = some vs → EnvOk β t → EnvOk (mkE β live vs) t
  | [], vs, β, hg, hb => by cases vs <;> exact hb
  | x :: ts, vs, β, hg, hb => by
    simp only [getAll] at hg
    cases h1 : (lk α x).val with
    | none => simp [h1] at hg
    | some v =>
      cases h2 : getAll α ts with
      | none => simp [h1, h2] at hg
      | some vs' =>
        simp only [h1, h2, Option.some.injEq] at hg
        subst hg
        have e1 := h.val x v h1
        exact mkE_ok h ts vs' _ h2 (hb.refine x (.v v) fun u hu => by cases hu; exact e1)
theorem mkEnv_ok {n : Nat} {α : Env} {t : Array Value} (h : EnvOk α t) {live : List Nat} {vs : List Value} (hg : gets n live α = some vs) : EnvOk (mkEnv n live vs) t := by
  unfold gets at hg
  cases hn : Nat.beq (lenE α) n with
  | false => rw [hn] at hg; cases hg
  | true =>
    rw [hn] at hg
    have := Nat.eq_of_beq_eq_true hn
    subst this
    refine mkE_ok h live vs _ hg ⟨?_, fun i v hv => ?_⟩
    · rw [unE_eq, lenE_eq]; simp [h.size]
    · rw [lk_un] at hv; cases hv
theorem gets_length {n : Nat} {α : Env} {live : List Nat} {vs : List Value} (hg : gets n live α = some vs) : vs.length = live.length := by
  unfold gets at hg
  cases hn : Nat.beq (lenE α) n with
  | false => rw [hn] at hg; cases hg
  | true => rw [hn] at hg; exact getAll_length hg

/-- Less may be known of the temporaries. -/
theorem V.weaken {r : Option Nat} {c : Code} {Q : Exit → Env → Heap → Prop} {α β : Env} {H : Heap} (h : V P r c Q β H) (he : ∀ t : Array Value, EnvOk α t → EnvOk β t) : V P r c Q α H :=
  fun a w F M s => h a w F M ⟨he _ s.env, s.satH, s.satF, s.dis, s.defs, s.marks, s.nodup⟩
theorem segV.mono {r : Option Nat} {J : Nat → Env → Heap → Prop} : ∀ (c : Code) (fr : Option Nat) {Q Q' : Exit → Env → Heap → Prop} {α : Env} {H : Heap}, segV P r J fr c Q α H → (∀ e α H, Q e α H → Q' e α H) → segV P r J fr c Q' α H := by
  have th : ∀ {K K' : Env → Heap → Prop} {Q Q' : Exit → Env → Heap → Prop}, (∀ α H, K α H → K' α H) → (∀ e α H, Q e α H → Q' e α H) → ∀ e α H, then_ K Q e α H → then_ K' Q' e α H := by
    intro K K' Q Q' h1 h2 e α H h
    cases e <;> first | exact h1 _ _ h | exact h2 _ _ _ h
  intro c
  induction c with
  | seq x y ihx ihy =>
    intro fr Q Q' α H h hq
    cases fr with
    | none =>
      simp only [segV] at h ⊢
      split
      · rename_i he; rw [if_pos he] at h; exact h.mono hq
      · rename_i he; rw [if_neg he] at h
        exact ihx none h (th (fun α H h => ihy none h hq) hq)
    | some l =>
      simp only [segV] at h ⊢
      split
      · rename_i he; rw [if_pos he] at h
        exact ihx (some l) h (th (fun α H h => ihy none h hq) hq)
      · rename_i he; rw [if_neg he] at h
        exact ihy (some l) h hq
  | label l =>
    intro fr Q Q' α H h hq
    cases fr with
    | none => exact h
    | some l => exact hq _ _ _ h
  | _ =>
    intro fr Q Q' α H h hq
    cases fr with
    | none => exact V.mono h hq
    | some l => exact h

theorem segV_nolab {r : Option Nat} {J : Nat → Env → Heap → Prop} {c : Code} (hc : (labs c).isEmpty = true) {Q : Exit → Env → Heap → Prop} {α : Env} {H : Heap} : segV P r J none c Q α H = V P r c Q α H := by
  cases c <;> first | rfl | skip
  · rename_i x y
    simp only [segV]
    rw [if_pos (by simpa [labs] using hc)]
  · rename_i l; simp [labs] at hc

/-- What the walk of a piece shows, by its mode. -/
def SemM (P : Program) (r : Option Nat) : Md → Code → (Exit → Env → Heap → Prop) → Env → Heap → Prop
  | .no, c, Q, α, H => V P r c Q α H
  | .sg fr J, c, Q, α, H => segV P r J fr c Q α H

theorem SemM.mono {r : Option Nat} {md : Md} {c : Code} {Q Q' : Exit → Env → Heap → Prop} {α : Env} {H : Heap} (h : SemM P r md c Q α H) (hq : ∀ e α H, Q e α H → Q' e α H) : SemM P r md c Q' α H := by
  cases md with
  | no => exact V.mono h hq
  | sg fr J => exact segV.mono c fr h hq

theorem then_mono {K K' : Env → Heap → Prop} {Q : Exit → Env → Heap → Prop} (h1 : ∀ α H, K α H → K' α H) : ∀ e α H, then_ K Q e α H → then_ K' Q e α H := by
  intro e α H h
  cases e <;> first | exact h1 _ _ h | exact h

theorem mdOf_sem {r : Option Nat} {md : Md} {x y : Code} {Q : Exit → Env → Heap → Prop} {α : Env} {H : Heap} (h : SemM P r (mdOf md x y) (.seq x y) Q α H) : SemM P r md (.seq x y) Q α H := by
  unfold mdOf at h
  split at h
  · exact h
  · split at h
    · rename_i he
      show segV P r _ none (.seq x y) Q α H
      rw [segV_nolab (by rw [labs]; exact he)]; exact h
    · exact h
  · exact h

theorem impL_intro {ls : List (Nat × List Nat)} {f : Nat → List Nat → Prop} {G : Prop} (h : impL ls f G) (hf : ∀ l live, (l, live) ∈ ls → f l live) : G := by
  induction ls with
  | nil => exact h
  | cons p r ih =>
    obtain ⟨l, live⟩ := p
    exact ih (h (hf l live (by simp))) fun l' live' hm => hf l' live' (by simp [hm])
theorem findL_mem {ls : List (Nat × List Nat)} {l : Nat} {live : List Nat} (h : findL ls l = some live) : (l, live) ∈ ls := by
  induction ls with
  | nil => cases h
  | cons p r ih =>
    obtain ⟨k, lv⟩ := p
    simp only [findL] at h
    split at h
    · rename_i e; subst e; cases h; simp
    · simp [ih h]
theorem nodB_nodup {l : List Nat} (h : nodB l = true) : l.Nodup := by
  induction l with
  | nil => exact List.nodup_nil
  | cons x r ih =>
    simp only [nodB, Bool.and_eq_true] at h
    refine List.nodup_cons.2 ⟨?_, ih h.2⟩
    simpa using h.1

theorem vcg_sound (hE : EOk P E) (hm : P.follows .mixedOrders = true) : ∀ (c : Code) (ann : Ann) (md : Md) (r : Option Nat) (Q : Exit → Env → Heap → Prop) (α : Env) (H : Heap),
    (∀ l J, md = .sg (some l) J → hasL c l = true) → vcg P E c ann md r Q α H → SemM P r md c Q α H := by
  have leaf : ∀ {md : Md} {c : Code} {r : Option Nat} {Q : Exit → Env → Heap → Prop} {α : Env} {H : Heap}, (∀ l J, md = .sg (some l) J → hasL c l = true) → (∀ x y, c ≠ .seq x y) → (∀ l, c ≠ .label l) → V P r c Q α H → SemM P r md c Q α H := by
    intro md c r Q α H hl hs hlb hv
    cases md with
    | no => exact hv
    | sg fr J =>
      cases fr with
      | none =>
        cases c <;> first | exact hv | exact absurd rfl (hs _ _) | exact absurd rfl (hlb _)
      | some l =>
        have := hl l J rfl
        cases c <;> first | exact absurd rfl (hs _ _) | exact absurd rfl (hlb _) | cases this
  intro c
  induction c with
  | skip => intro ann md r Q α H hl h; exact leaf hl (by simp) (by simp) (V_skip h)
  | label l =>
    intro ann md r Q α H hl h
    cases md with
    | no => exact V_label h
    | sg fr J => cases fr <;> exact h
  | exit i => intro ann md r Q α H hl h; exact leaf hl (by simp) (by simp) (V_exit h)
  | goto l => intro ann md r Q α H hl h; exact leaf hl (by simp) (by simp) (V_goto h)
  | ret => intro ann md r Q α H hl h; exact leaf hl (by simp) (by simp) (V_ret h)
  | refuse w => intro ann md r Q α H hl h; exact h.elim
  | region id ops draw =>
    intro ann md r Q α H hl h
    refine leaf hl (by simp) (by simp) ?_
    simp only [vcg] at h
    split at h
    · exact h.elim
    · rename_i hd
      split at h
      · exact V_text hE hd h
      · exact V_draw hE hm hd h
  | cond c x y ihx ihy =>
    intro ann md r Q α H hl h
    refine leaf hl (by simp) (by simp) ?_
    have key : ∀ a b, (match entO α c with | .b true => vcg P E x a .no r Q α H | .b false => vcg P E y b .no r Q α H | .v v => Br v (vcg P E x a .no r Q (refO α c true) H) (vcg P E y b .no r Q (refO α c false) H) | .un => False | .nd => False) → V P r (.cond c x y) Q α H := by
      intro a b h
      split at h
      · rename_i hc
        have hx := ihx a .no r Q α H (by simp) h
        refine V_cond (v := .bool true) (by rw [hc]; rfl) ⟨true, rfl⟩ (fun _ => V.weaken hx fun t ht => ?_) (fun h => by cases h)
        unfold refO at ht
        cases c with
        | tmp i =>
          refine ⟨by simpa [st_length] using ht.size, fun j v hj => ?_⟩
          by_cases e : i = j ∧ j < α.length
          · obtain ⟨rfl, e2⟩ := e
            have h2 := ht.val i (.bool true) (by rw [lk_st, if_pos ⟨rfl, e2⟩]; rfl)
            simp only [entO] at hc
            rw [hc] at hj; cases hj; exact h2
          · exact ht.val j v (by rw [lk_st, if_neg e]; exact hj)
        | _ => exact ht
      · rename_i hc
        have hy := ihy b .no r Q α H (by simp) h
        refine V_cond (v := .bool false) (by rw [hc]; rfl) ⟨false, rfl⟩ (fun h => by cases h) (fun _ => V.weaken hy fun t ht => ?_)
        unfold refO at ht
        cases c with
        | tmp i =>
          refine ⟨by simpa [st_length] using ht.size, fun j v hj => ?_⟩
          by_cases e : i = j ∧ j < α.length
          · obtain ⟨rfl, e2⟩ := e
            have h2 := ht.val i (.bool false) (by rw [lk_st, if_pos ⟨rfl, e2⟩]; rfl)
            simp only [entO] at hc
            rw [hc] at hj; cases hj; exact h2
          · exact ht.val j v (by rw [lk_st, if_neg e]; exact hj)
        | _ => exact ht
      · rename_i v hc
        obtain ⟨h1, h2, h3⟩ := h
        exact V_cond (by rw [hc]; rfl) h1 (fun e => ihx a .no r Q _ H (by simp) (h2 e)) (fun e => ihy b .no r Q _ H (by simp) (h3 e))
      · exact h.elim
      · exact h.elim
    simp only [vcg] at h
    split at h
    · exact key _ _ h
    · exact key _ _ h
  | block id c ih =>
    intro ann md r Q α H hl h
    refine leaf hl (by simp) (by simp) (V_block ?_)
    simp only [vcg] at h
    split at h
    · exact ih _ .no r _ α H (by simp) h
    · exact ih _ .no r _ α H (by simp) h
  | loop c ih =>
    intro ann md r Q α H hl h
    refine leaf hl (by simp) (by simp) ?_
    simp only [vcg] at h
    split at h
    · rename_i live a
      refine V_loop fun I step => ?_
      let J : List Value → Heap → Prop := fun vs H => ∀ β, gets (lenE α) live β = some vs → I β H
      have := h J fun H' => allV_mk fun vs hvs hv β hb => ?_
      · obtain ⟨vs, hg, hj⟩ := ev_iff.1 this
        exact hj α hg
      · refine step β H' ?_
        have hv' := ih a .no r _ _ H' (by simp) hv
        refine V.weaken (V.mono hv' fun e α' H'' q => ?_) fun t ht => mkEnv_ok ht hb
        cases e with
        | normal =>
          obtain ⟨vs', hg, hj⟩ := ev_iff.1 q
          exact hj α' hg
        | _ => exact q
    · exact h.elim
  | seq x y ihx ihy =>
    intro ann md r Q α H hl h
    refine mdOf_sem ?_
    have hl' : ∀ l J, mdOf md x y = .sg (some l) J → hasL (.seq x y) l = true := by
      intro l J e
      unfold mdOf at e
      split at e
      · cases e
      · split at e <;> cases e
      · exact hl l J e
    simp only [vcg] at h
    revert h hl'
    generalize mdOf md x y = m
    intro h hl'
    have nxl : ∀ l J, m.nx = .sg (some l) J → hasL y l = true := by
      intro l J e; cases m <;> cases e
    split at h
    · rename_i hg
      have : ∃ l J, m = .sg (some l) J ∧ hasL x l = false := by
        cases m with
        | no => cases hg
        | sg fr J => cases fr with
          | none => cases hg
          | some l => exact ⟨l, J, rfl, hg⟩
      obtain ⟨l, J, rfl, hx⟩ := this
      have hy : hasL y l = true := by have := hl' l J rfl; simpa [hasL, hx] using this
      have fin : ∀ b, vcg P E y b (.sg (some l) J) r Q α H → SemM P r (.sg (some l) J) (.seq x y) Q α H := by
        intro b hb
        have := ihy b (.sg (some l) J) r Q α H (by intro l' J' e; cases e; exact hy) hb
        show segV P r J (some l) (.seq x y) Q α H
        simp only [segV]
        rw [if_neg (by rw [hx]; simp)]
        exact this
      split at h
      · exact fin _ h
      · exact fin _ h
      · exact fin _ h
    · rename_i hg
      have hxl : ∀ l J, m = .sg (some l) J → hasL x l = true := by
        intro l J e; subst e; exact hg
      -- putting the two parts together
      have comb : SemM P r m x (then_ (SemM P r m.nx y Q) Q) α H → (match m with | .sg none _ => (labs x ++ labs y).isEmpty = false | _ => True) → SemM P r m (.seq x y) Q α H := by
        intro h1 h2
        cases m with
        | no => exact V_seq h1
        | sg fr J =>
          cases fr with
          | none =>
            show segV P r J none (.seq x y) Q α H
            simp only [segV]
            rw [if_neg (by simp only at h2; rw [h2]; simp)]
            exact h1
          | some l =>
            show segV P r J (some l) (.seq x y) Q α H
            simp only [segV]
            rw [if_pos (hxl l J rfl)]
            exact h1
      have comb' : SemM P r m x (then_ (SemM P r m.nx y Q) Q) α H → SemM P r m (.seq x y) Q α H := by
        intro h1
        cases m with
        | no => exact comb h1 trivial
        | sg fr J =>
          cases fr with
          | some l => exact comb h1 trivial
          | none =>
            cases he : (labs x ++ labs y).isEmpty with
            | false => exact comb h1 he
            | true =>
              have hx0 : (labs x).isEmpty = true := by simp at he ⊢; exact he.1
              have hy0 : (labs y).isEmpty = true := by simp at he ⊢; exact he.2
              show segV P r J none (.seq x y) Q α H
              rw [segV_nolab (by simpa [labs] using he)]
              have h2 : segV P r J none x (then_ (segV P r J none y Q) Q) α H := h1
              rw [segV_nolab hx0] at h2
              refine V_seq (V.mono h2 (then_mono fun α H h => ?_))
              rw [segV_nolab hy0] at h; exact h
      have plain : ∀ a b, vcg P E x a m r (then_ (vcg P E y b m.nx r Q) Q) α H → SemM P r m (.seq x y) Q α H := by
        intro a b h
        refine comb' ?_
        exact SemM.mono (ihx a m r _ α H hxl h) (then_mono fun α' H' hy => ihy b m.nx r Q α' H' nxl hy)
      cases ann with
      | j live a b =>
        dsimp only at h
        cases hj : jok m y with
        | false => rw [hj] at h; exact h.elim
        | true =>
          rw [hj] at h
          refine comb' ?_
          have := h (fun vs H' => V P r y Q (mkEnv (lenE α) live vs) H') fun H' => allV_mk fun vs hvs hv => ihy b .no r Q _ H' (by simp) hv
          refine SemM.mono (ihx a m r _ α H hxl this) (then_mono fun α' H' q => ?_)
          obtain ⟨vs, hg2, hv⟩ := ev_iff.1 q
          have hv' : V P r y Q α' H' := V.weaken hv fun t ht => mkEnv_ok ht hg2
          cases m with
          | no => exact hv'
          | sg fr J =>
            show segV P r J none y Q α' H'
            rw [segV_nolab (by simpa [jok] using hj)]; exact hv'
      | s a b => exact plain a b h
      | _ => exact plain .n .n h
  | scope c ih =>
    intro ann md r Q α H hl h
    refine leaf hl (by simp) (by simp) ?_
    simp only [vcg] at h
    split at h
    · rename_i ls a
      split at h
      · rename_i hok
        simp only [labsOk, Bool.and_eq_true] at hok
        obtain ⟨⟨hnd, hall⟩, huniq⟩ := hok
        refine V_scope (nodB_nodup hnd) fun I step => ?_
        let J : Nat → List Value → Heap → Prop := fun l vs H => ∀ live β, findL ls l = some live → gets (lenE α) live β = some vs → I l β H
        have hJJ : ∀ l β H, JJ (lenE α) J ls l β H → I l β H := by
          intro l β H hj
          unfold JJ at hj
          split at hj
          · rename_i live hf
            obtain ⟨vs, hg, hv⟩ := ev_iff.1 hj
            exact hv live β hf hg
          · exact hj.elim
        have conv : ∀ (fr : Option Nat) (β : Env) (H : Heap), segV P r (JJ (lenE α) J ls) fr c (jmp c (JJ (lenE α) J ls) Q) β H → segV P r I fr c (jmp c I Q) β H := by
          have gen : ∀ (d : Code) (fr : Option Nat) (Q1 Q2 : Exit → Env → Heap → Prop) (β : Env) (H : Heap), (∀ e β H, Q1 e β H → Q2 e β H) → segV P r (JJ (lenE α) J ls) fr d Q1 β H → segV P r I fr d Q2 β H := by
            intro d
            induction d with
            | seq x y ihx ihy =>
              intro fr Q1 Q2 β H hq hd
              cases fr with
              | none =>
                simp only [segV] at hd ⊢
                split
                · rename_i he; rw [if_pos he] at hd; exact hd.mono hq
                · rename_i he; rw [if_neg he] at hd
                  refine ihx none _ _ β H (fun e β' H' q => ?_) hd
                  cases e <;> first | exact ihy none _ _ _ _ hq q | exact hq _ _ _ q
              | some l =>
                simp only [segV] at hd ⊢
                split
                · rename_i he; rw [if_pos he] at hd
                  refine ihx (some l) _ _ β H (fun e β' H' q => ?_) hd
                  cases e <;> first | exact ihy none _ _ _ _ hq q | exact hq _ _ _ q
                · rename_i he; rw [if_neg he] at hd
                  exact ihy (some l) _ _ β H hq hd
            | label l =>
              intro fr Q1 Q2 β H hq hd
              cases fr with
              | none => exact hJJ _ _ _ hd
              | some l => exact hq _ _ _ hd
            | _ =>
              intro fr Q1 Q2 β H hq hd
              cases fr with
              | none => exact V.mono hd hq
              | some l => exact hd
          intro fr β H hs
          refine gen c fr _ _ β H (fun e β' H' q => ?_) hs
          cases e with
          | goto l =>
            simp only [jmp] at q ⊢
            split
            · rename_i hh; rw [if_pos hh] at q; exact hJJ _ _ _ q
            · rename_i hh; rw [if_neg hh] at q; exact q
          | _ => exact q
        refine conv none α H ?_
        have fin := impL_intro (h J) fun l live hmem H' => allV_mk fun vs hvs hv live' β hf hg => ?_
        · exact ih a (.sg none (JJ (lenE α) J ls)) r _ α H (by simp) fin
        · -- the step at a label
          have hlab : hasL c l = true := List.all_eq_true.1 hall (l, live) hmem
          have h1 := ih a (.sg (some l) (JJ (lenE α) J ls)) r _ _ H' (by intro l' J' e; cases e; exact hlab) hv
          have hle : live' = live := by
            have key : ∀ ls : List (Nat × List Nat), nodB (ls.map (·.1)) = true → (l, live) ∈ ls → ∀ live', findL ls l = some live' → live' = live := by
              intro ls
              induction ls with
              | nil => intro _ hm; cases hm
              | cons p r ih =>
                obtain ⟨k, lv⟩ := p
                intro hn hm live' hf
                simp only [List.map_cons, nodB, Bool.and_eq_true] at hn
                simp only [findL] at hf
                rcases List.mem_cons.1 hm with e | hm
                · cases e; rw [if_pos rfl] at hf; cases hf; rfl
                · have hne : k ≠ l := fun e => by
                    have h2 := hn.1
                    have : l ∈ r.map (·.1) := List.mem_map.2 ⟨(l, live), hm, rfl⟩
                    rw [e] at h2; simp [this] at h2
                  rw [if_neg hne] at hf
                  exact ih hn.2 hm live' hf
            exact key ls huniq hmem live' hf
          subst hle
          exact step l β _ H' hlab (fun t ht => mkEnv_ok ht hg) (conv (some l) _ H' h1)
      · exact h.elim
    · exact h.elim
  | rangeFunc g ps asg body iha ihb =>
    intro ann md r Q α H hl h
    refine leaf hl (by simp) (by simp) ?_
    simp only [vcg] at h
    split at h
    · rename_i ex a b
      obtain ⟨gv, hg, h⟩ := ev_iff.1 h
      have hex : ∀ ex : List Nat, ∀ p ∈ exs Q α ex, ∀ H, p.2 H → Q (.exit p.1) α H := by
        intro ex
        induction ex with
        | nil => intro p hp; cases hp
        | cons i r ih =>
          intro p hp H hH
          rcases List.mem_cons.1 hp with rfl | hp
          · exact hH
          · exact ih p hp H hH
      refine V_rangeFunc hg (fun _ h => h) (fun _ h => h) (hex ex) ?_
      unfold rfW at h ⊢
      split at h
      · refine ⟨h.1, fun l rc hH hy => ?_⟩
        refine h.2 l rc hH fun args H1 R hl1 hr => hy args H1 R hl1 ?_
        obtain ⟨hr, hn⟩ := apN_spec hr
        refine ⟨hn, V.mono (iha a .no (some l) _ _ H1 (by simp) hr) fun e α1 H2 q => ?_⟩
        cases e with
        | normal => exact ⟨q.1, ihb b .no (some l) _ α1 _ (by simp) q.2⟩
        | _ => exact q
      · exact h
    · exact h.elim
end
end Go.Sl
namespace Go.Sl
open Go
theorem T_of_vcg {P : Program} {E : List TypeId} (hE : EOk P E) (hm : P.follows .mixedOrders = true) {f : FuncId} {fn : Func} {c : Code} {args : List Value} {H : Heap} {Q : Value → Heap → Prop} (ann : Ann)
    (hf : P.funcs[f]? = some fn) (hb : fn.body = some c) (hname : (fn.name == "runtime.NumGoroutine") = false)
    (h : vcg P E c ann .no none (retQ P fn.results.toList Q) (env0 args fn.ntmps) H) : T P f args H Q :=
  T_of_V hf hb hname (vcg_sound hE hm c ann .no none _ _ H (by simp) h)
theorem T_of_eq {P : Program} {E : List TypeId} (hE : EOk P E) (hm : P.follows .mixedOrders = true) {f : FuncId} {fn : Func} {args : List Value} {H : Heap} {Q : Value → Heap → Prop} (ann : Ann)
    (hf : P.funcs[f]? = some fn) (hb : fn.body.isSome = true) (hname : (fn.name == "runtime.NumGoroutine") = false) {S : Prop}
    (heq : S = vcg P E (fn.body.getD .skip) ann .no none (retQ P fn.results.toList Q) (env0 args fn.ntmps) H) (h : S) : T P f args H Q := by
  obtain ⟨c, hc⟩ := Option.isSome_iff_exists.1 hb
  rw [hc] at heq
  exact T_of_vcg hE hm ann hf hc hname (heq ▸ h)
end Go.Sl

/- Proved here: the rules of a judgement of Go code over partial knowledge of memory, for every program. -/
import Derived.WalkKit
import Derived.RangeFuncLeaves
import Derived.DefersIn
import Derived.OrdersIn
namespace Go.Sl
open Go

/-- What is known of a block: a row of cells that may be written, or an object as it lies. -/
inductive Blk where
  | cs (c : List Value) (e : TypeId)
  | ob (o : Obj)
  | gh (o : Obj) (w : World)

def Blk.obj : Blk → Obj
  | .cs c e => .cells c.toArray e (0, 0)
  | .ob o => o
  | .gh o _ => o
/-- What is known besides of the world. -/
def Blk.on (k : Blk) (w : World) : Prop := ∀ o w0, k = .gh o w0 → w.os = w0.os ∧ w.output = w0.output ∧ w.tape = w0.tape
theorem on_cs {c : List Value} {e : TypeId} {w : World} : (Blk.cs c e).on w := fun _ _ h => by cases h
theorem on_ob {o : Obj} {w : World} : (Blk.ob o).on w := fun _ _ h => by cases h

abbrev Heap := Nat → Option Blk

def Sat (w : World) (H : Heap) : Prop := ∀ b k, H b = some k → w.heap[b]? = some k.obj ∧ k.on w
def Dis (H F : Heap) : Prop := ∀ b, H b = none ∨ F b = none
def Sub (H H' : Heap) : Prop := ∀ b k, H b = some k → H' b = some k
def upd (H : Heap) (b : Nat) (k : Blk) : Heap := fun c => if c = b then some k else H c
def emp : Heap := fun _ => none

theorem Sub.refl (H : Heap) : Sub H H := fun _ _ h => h
theorem Sub.trans {A B C : Heap} (h : Sub A B) (k : Sub B C) : Sub A C := fun b x hx => k b x (h b x hx)
theorem Sat.sub {w : World} {H H' : Heap} (h : Sat w H') (s : Sub H H') : Sat w H := fun b k hb => h b k (s b k hb)
theorem Dis.sub {H H' F : Heap} (h : Dis H' F) (s : Sub H H') : Dis H F := fun b => by
  rcases h b with h1 | h1
  · left
    cases hb : H b with
    | none => rfl
    | some k => rw [s b k hb] at h1; cases h1
  · exact .inr h1
theorem Sub.upd_fresh {H : Heap} {b : Nat} (k : Blk) (h : H b = none) : Sub H (upd H b k) := fun c x hx => by
  unfold upd
  by_cases e : c = b
  · subst e; rw [h] at hx; cases hx
  · simp [e, hx]
@[simp] theorem upd_same (H : Heap) (b : Nat) (k : Blk) : upd H b k b = some k := by simp [upd]
theorem upd_ne {H : Heap} {b c : Nat} {k : Blk} (h : c ≠ b) : upd H b k c = H c := by simp [upd, h]
@[simp] theorem upd_upd (H : Heap) (b : Nat) (k k' : Blk) : upd (upd H b k) b k' = upd H b k' := by
  funext c; unfold upd; split <;> rfl
theorem upd_comm {H : Heap} {b c : Nat} {k k' : Blk} (h : b ≠ c) : upd (upd H b k) c k' = upd (upd H c k') b k := by
  funext d; unfold upd; by_cases e : d = c <;> by_cases f : d = b <;> simp_all

/-- The block that the next allocation takes is known to nobody. -/
theorem Sat.fresh {w : World} {H : Heap} (h : Sat w H) : H w.heap.size = none := by
  cases hb : H w.heap.size with
  | none => rfl
  | some k => have := (h _ _ hb).1; simp at this

def Fr : Option Nat → Fence
  | none => Fence.wide
  | some l => Fence.wide.inRound l

theorem Fr_fn (r : Option Nat) (f : FuncId) : (Fr r).fn f := by cases r <;> exact trivial
theorem Fr_depth (r : Option Nat) : (Fr r).depth = none := by cases r <;> rfl
theorem Fr_round (r : Option Nat) : (Fr r).round = r := by cases r <;> rfl
theorem Fr_room (r : Option Nat) (n : Nat) : (Fr r).room n := fun d hd => by rw [Fr_depth] at hd; cases hd

/-- The triple of a call of function f: whatever else is known (F) stays so. -/
def Fin (F : Heap) (Q : Value → Heap → Prop) (e : Ending) (w' : World) : Prop :=
  ∃ v H', e = .returned v ∧ Sat w' H' ∧ Sat w' F ∧ Dis H' F ∧ Q v H'

def Enters (P : Program) (f : FuncId) : Prop := ∀ (args : Array Value) (w : World), (callFunc f args).run P w = .ok (.enter f args) w

/-- A function that the machine does by itself (it has no body). -/
def Self (P : Program) (f : FuncId) (args : List Value) (H : Heap) (Q : Value → Heap → Prop) : Prop :=
  ∀ w F, Sat w H → Sat w F → Dis H F → ∃ v w' H', (callFunc f args.toArray).run P w = .ok (.value v) w' ∧ Sat w' H' ∧ Sat w' F ∧ Dis H' F ∧ Q v H'

def T (P : Program) (f : FuncId) (args : List Value) (H : Heap) (Q : Value → Heap → Prop) : Prop :=
  (Enters P f ∧ ∀ w F, Sat w H → Sat w F → Dis H F → CallsIn Fence.wide 0 P f args.toArray w (Fin F Q)) ∨ Self P f args H Q

theorem Fin.mono {F : Heap} {Q Q' : Value → Heap → Prop} {e : Ending} {w : World} (h : Fin F Q e w) (hq : ∀ v H, Q v H → Q' v H) : Fin F Q' e w :=
  let ⟨v, H', a, b, c, d, q⟩ := h; ⟨v, H', a, b, c, d, hq _ _ q⟩
/-- Knowledge may be let go. -/
theorem Fin.drop {F : Heap} {Q Q' : Value → Heap → Prop} {e : Ending} {w : World} (h : Fin F Q e w) (hq : ∀ v H, Q v H → ∃ H', Sub H' H ∧ Q' v H') : Fin F Q' e w :=
  let ⟨v, _H', a, b, c, d, q⟩ := h; let ⟨H'', s, q'⟩ := hq _ _ q; ⟨v, H'', a, b.sub s, c, d.sub s, q'⟩
theorem T.mono {P : Program} {f : FuncId} {args : List Value} {H : Heap} {Q Q' : Value → Heap → Prop} (h : T P f args H Q) (hq : ∀ v H', Q v H' → Q' v H') : T P f args H Q' :=
  h.imp (fun h => ⟨h.1, fun w F a b c => (h.2 w F a b c).mono fun _ _ hf => hf.mono hq⟩) fun h w F a b c =>
    let ⟨v, w', H', r, x, y, z, q⟩ := h w F a b c; ⟨v, w', H', r, x, y, z, hq _ _ q⟩
theorem T.drop {P : Program} {f : FuncId} {args : List Value} {H : Heap} {Q Q' : Value → Heap → Prop} (h : T P f args H Q) (hq : ∀ v H', Q v H' → ∃ H'', Sub H'' H' ∧ Q' v H'') : T P f args H Q' :=
  h.imp (fun h => ⟨h.1, fun w F a b c => (h.2 w F a b c).mono fun _ _ hf => hf.drop hq⟩) fun h w F a b c =>
    let ⟨v, w', _H', r, x, y, z, q⟩ := h w F a b c; let ⟨H'', s, q'⟩ := hq _ _ q; ⟨v, w', H'', r, x.sub s, y, z.sub s, q'⟩
/-- A temporary: nothing is known of it; its value; a truth that has been decided. -/
inductive Ent where
  | un
  | v (x : Value)
  | b (c : Bool)
  | nd

def Ent.val : Ent → Option Value
  | .un => none
  | .v x => some x
  | .b c => some (.bool c)
  | .nd => some undef

abbrev Env := List Ent

def lk : Env → Nat → Ent
  | [], _ => .un
  | x :: _, 0 => x
  | _ :: r, n + 1 => lk r n

def st : Env → Nat → Ent → Env
  | [], _, _ => []
  | _ :: r, 0, y => y :: r
  | x :: r, n + 1, y => x :: st r n y

def stO (α : Env) : Option Nat → Ent → Env
  | none, _ => α
  | some d, e => st α d e

structure EnvOk (α : Env) (t : Array Value) : Prop where
  size : α.length = t.size
  val : ∀ i v, (lk α i).val = some v → t[i]? = some v

theorem st_length (α : Env) (d : Nat) (e : Ent) : (st α d e).length = α.length := by
  induction α generalizing d with
  | nil => rfl
  | cons x r ih => cases d <;> simp [st, ih]
theorem lk_st (α : Env) (d i : Nat) (e : Ent) : lk (st α d e) i = if d = i ∧ i < α.length then e else lk α i := by
  induction α generalizing d i with
  | nil => simp [st, lk]
  | cons x r ih =>
    cases d with
    | zero => cases i <;> simp [st, lk]
    | succ d =>
      cases i with
      | zero => simp [st, lk]
      | succ i => simp [st, lk, ih]
theorem EnvOk.put {α : Env} {a : Act} (h : EnvOk α a.tmps) (dst : Option Nat) (e : Ent) (v : Value) (he : ∀ u, e.val = some u → u = v) : EnvOk (stO α dst e) (a.put dst v).tmps := by
  cases dst with
  | none => exact h
  | some d =>
    refine ⟨by simp [stO, Act.put, st_length, h.size], fun i u hu => ?_⟩
    simp only [stO, lk_st] at hu
    simp only [Act.put]
    by_cases hd : d = i ∧ i < α.length
    · rw [if_pos hd] at hu
      have := he u hu
      subst this
      obtain ⟨rfl, hlt⟩ := hd
      simp [← h.size, hlt]
    · rw [if_neg hd] at hu
      have h1 := h.val i u hu
      by_cases e1 : d = i
      · subst e1
        have : d < a.tmps.size := (Array.getElem?_eq_some_iff.1 h1).1
        exact absurd ⟨rfl, h.size ▸ this⟩ hd
      · rw [Array.getElem?_setIfInBounds_ne e1]; exact h1
/-- A slot whose value is known may be told more sharply. -/
theorem EnvOk.refine {α : Env} {t : Array Value} (h : EnvOk α t) (d : Nat) (e : Ent) (he : ∀ u, e.val = some u → t[d]? = some u) : EnvOk (st α d e) t := by
  refine ⟨by simp [st_length, h.size], fun i u hu => ?_⟩
  simp only [lk_st] at hu
  by_cases hd : d = i ∧ i < α.length
  · rw [if_pos hd] at hu; rw [← hd.1]; exact he u hu
  · rw [if_neg hd] at hu; exact h.val i u hu

/-- The state: what is known of the temporaries and of memory; M: the blocks of the loops over functions that this call has begun. -/
structure St (a : Act) (w : World) (α : Env) (H F : Heap) (M : List Nat) : Prop where
  env : EnvOk α a.tmps
  satH : Sat w H
  satF : Sat w F
  dis : Dis H F
  defs : a.defers.map (·.target) = M.map .collected
  marks : ∀ r ∈ M, w.heap[r]? = some (.deferred (some [])) ∧ H r = none ∧ F r = none
  nodup : M.Nodup

def Aft (F : Heap) (Q : Exit → Env → Heap → Prop) (e : Exit) (a : Act) (w : World) : Prop :=
  ∃ α H M, St a w α H F M ∧ Q e α H

def V (P : Program) (r : Option Nat) (c : Code) (Q : Exit → Env → Heap → Prop) (α : Env) (H : Heap) : Prop :=
  ∀ a w F M, St a w α H F M → c.wpIn (Fr r) 0 P (Aft F Q) a w

def then_ (K : Env → Heap → Prop) (Q : Exit → Env → Heap → Prop) : Exit → Env → Heap → Prop
  | .normal, α, H => K α H
  | .exit i, α, H => Q (.exit i) α H
  | .goto l, α, H => Q (.goto l) α H
  | .ret, α, H => Q .ret α H
  | .panic c, α, H => Q (.panic c) α H
  | .outgrown, α, H => Q .outgrown α H

def inBlk (id : Nat) (Q : Exit → Env → Heap → Prop) : Exit → Env → Heap → Prop
  | .normal, α, H => Q .normal α H
  | .exit i, α, H => if i = id then Q .normal α H else Q (.exit i) α H
  | .goto l, α, H => Q (.goto l) α H
  | .ret, α, H => Q .ret α H
  | .panic c, α, H => Q (.panic c) α H
  | .outgrown, α, H => Q .outgrown α H

section
variable {P : Program} {r : Option Nat} {Q : Exit → Env → Heap → Prop} {α : Env} {H : Heap}

theorem V.mono {c : Code} {Q' : Exit → Env → Heap → Prop} (h : V P r c Q α H) (hq : ∀ e α H, Q e α H → Q' e α H) : V P r c Q' α H :=
  fun a w F M s => wpIn_mono (h a w F M s) fun _ _ _ ⟨α', H', M', s', q⟩ => ⟨α', H', M', s', hq _ _ _ q⟩
theorem V_skip (h : Q .normal α H) : V P r .skip Q α H := fun _ _ _ M s => wpIn_skip ⟨α, H, M, s, h⟩
theorem V_label {l : Nat} (h : Q .normal α H) : V P r (.label l) Q α H := fun _ _ _ M s => wpIn_label ⟨α, H, M, s, h⟩
theorem V_exit {i : Nat} (h : Q (.exit i) α H) : V P r (.exit i) Q α H := fun _ _ _ M s => wpIn_exit ⟨α, H, M, s, h⟩
theorem V_goto {l : Nat} (h : Q (.goto l) α H) : V P r (.goto l) Q α H := fun _ _ _ M s => wpIn_goto ⟨α, H, M, s, h⟩
theorem V_ret (h : Q .ret α H) : V P r .ret Q α H := fun _ _ _ M s => wpIn_ret ⟨α, H, M, s, h⟩
theorem V_seq {x y : Code} (h : V P r x (then_ (V P r y Q) Q) α H) : V P r (.seq x y) Q α H := fun a w F M s => by
  refine wpIn_seq (wpIn_mono (h a w F M s) ?_)
  rintro e a' w' ⟨α', H', M', s', q⟩
  cases e with
  | normal => exact q a' w' F M' s'
  | exit i => exact ⟨α', H', M', s', q⟩
  | goto l => exact ⟨α', H', M', s', q⟩
  | ret => exact ⟨α', H', M', s', q⟩
  | panic c => exact ⟨α', H', M', s', q⟩
  | outgrown => exact ⟨α', H', M', s', q⟩
theorem V_block {id : Nat} {c : Code} (h : V P r c (inBlk id Q) α H) : V P r (.block id c) Q α H := fun a w F M s => by
  refine wpIn_block (wpIn_mono (h a w F M s) ?_)
  rintro e a' w' ⟨α', H', M', s', q⟩
  cases e with
  | exit i =>
    simp only [inBlk] at q
    simp only [Exit.inBlock]
    by_cases hi : i = id
    · rw [if_pos hi] at q ⊢; exact ⟨α', H', M', s', q⟩
    · rw [if_neg hi] at q ⊢; exact ⟨α', H', M', s', q⟩
  | normal => exact ⟨α', H', M', s', q⟩
  | goto l => exact ⟨α', H', M', s', q⟩
  | ret => exact ⟨α', H', M', s', q⟩
  | panic c => exact ⟨α', H', M', s', q⟩
  | outgrown => exact ⟨α', H', M', s', q⟩
end
end Go.Sl
namespace Go.Sl
open Go

section loops
variable {P : Program} {r : Option Nat} {Q : Exit → Env → Heap → Prop} {α : Env} {H : Heap}

theorem V_loop {c : Code} (h : ∀ I : Env → Heap → Prop, (∀ α H, V P r c (then_ I Q) α H → I α H) → I α H) : V P r (.loop c) Q α H := by
  have key := h (fun α H => ∀ a w F M, St a w α H F M → ∀ (b : Frame) (k : List Item) (cs : List Frame), b.roundOf = (Fr r).round →
    ∃ e a' w', Aft F Q e a' w' ∧ ArrivesIn (Machine.fenced P (Fr r)) P (lone (b.atR a (.code c :: .inLoop c :: k)) cs w) b k cs e a' w') ?_
  · intro a w F M s b k cs hro hb hr
    obtain ⟨e, a', w', hq, harr⟩ := key a w F M s b k cs hro
    exact ⟨e, a', w', hq, .of_steps (.one (fenced_calm hb hr rfl) stepR_loop) harr⟩
  · intro α H hv a w F M s b k cs hro
    obtain ⟨e, a₁, w₁, hq, harr⟩ := hv a w F M s b (.inLoop c :: k) cs hro (Fr_fn _ _) (Fr_room _ _)
    obtain ⟨α₁, H₁, M₁, s₁, q⟩ := hq
    cases e with
    | normal =>
      obtain ⟨e₂, a₂, w₂, hq₂, harr₂⟩ := q a₁ w₁ F M₁ s₁ b k cs hro
      exact ⟨e₂, a₂, w₂, hq₂, .of_steps (StepsIn.trans harr (.one (fenced_calm (Fr_fn _ _) (Fr_room r _ : (Fr r).room (cs.length + 1 + 0)) rfl) stepR_inLoop)) harr₂⟩
    | exit id => exact ⟨_, a₁, w₁, ⟨α₁, H₁, M₁, s₁, q⟩, .pass (x := .inLoop c) rfl (fun _ _ => .inl (by simp)) harr⟩
    | goto l => exact ⟨_, a₁, w₁, ⟨α₁, H₁, M₁, s₁, q⟩, .pass (x := .inLoop c) rfl (fun _ _ => .inl (by simp)) harr⟩
    | ret => exact ⟨_, a₁, w₁, ⟨α₁, H₁, M₁, s₁, q⟩, .pass (x := .inLoop c) rfl (fun _ _ => .inl (by simp)) harr⟩
    | panic ch => exact ⟨_, a₁, w₁, ⟨α₁, H₁, M₁, s₁, q⟩, .pass (x := .inLoop c) rfl (fun _ _ => .inl (by simp)) harr⟩
    | outgrown => exact ⟨_, a₁, w₁, ⟨α₁, H₁, M₁, s₁, q⟩, .pass (x := .inLoop c) rfl (fun _ _ => .inl (by simp)) harr⟩
end loops

/-! ### Scopes: jumps to labels -/

def hasL : Code → Nat → Bool
  | .seq a b, l => hasL a l || hasL b l
  | .label l', l => l' == l
  | _, _ => false

def labs : Code → List Nat
  | .seq a b => labs a ++ labs b
  | .label l => [l]
  | _ => []
theorem hasL_labs (c : Code) (l : Nat) : hasL c l = true ↔ l ∈ labs c := by
  induction c with
  | seq a b iha ihb => simp [hasL, labs, iha, ihb]
  | label l' => simp only [hasL, labs, List.mem_singleton, beq_iff_eq]; exact eq_comm
  | _ => simp [hasL, labs]

/-- What stands behind a label, as items. -/
def itemsL : Code → Nat → List Item
  | .seq a b, l => if hasL a l then itemsL a l ++ [.code b] else itemsL b l
  | _, _ => []

theorem hasL_find (c : Code) (l : Nat) : hasL c l = (findLabel c l).isSome := by
  induction c with
  | seq a b iha ihb =>
    simp only [hasL, findLabel, iha, ihb]
    cases findLabel a l <;> simp
  | label l' => simp only [hasL, findLabel]; split <;> simp_all
  | _ => rfl

/-- Walked from the begin ('none') or from a label on, to the next label (there: J) or to the end. -/
def segV (P : Program) (r : Option Nat) (J : Nat → Env → Heap → Prop) : Option Nat → Code → (Exit → Env → Heap → Prop) → Env → Heap → Prop
  | none, .seq a b, Q, α, H => if (labs a ++ labs b).isEmpty = true then V P r (.seq a b) Q α H else segV P r J none a (then_ (segV P r J none b Q) Q) α H
  | some l, .seq a b, Q, α, H => if hasL a l then segV P r J (some l) a (then_ (segV P r J none b Q) Q) α H else segV P r J (some l) b Q α H
  | none, .label l, _, α, H => J l α H
  | some _, .label _, Q, α, H => Q .normal α H
  | none, c, Q, α, H => V P r c Q α H
  | some _, _, _, _, _ => False

/-- At a jump to a label of c: J. -/
def jmp (c : Code) (J : Nat → Env → Heap → Prop) (Q : Exit → Env → Heap → Prop) : Exit → Env → Heap → Prop
  | .goto l, α, H => if hasL c l then J l α H else Q (.goto l) α H
  | .normal, α, H => Q .normal α H
  | .exit i, α, H => Q (.exit i) α H
  | .ret, α, H => Q .ret α H
  | .panic ch, α, H => Q (.panic ch) α H
  | .outgrown, α, H => Q .outgrown α H

section scopes
variable {P : Program} {r : Option Nat} {Q : Exit → Env → Heap → Prop}

/-- The machine, from these items on within the scope of c, comes to an end that Q lets be. -/
def Ok (P : Program) (r : Option Nat) (c : Code) (Q : Exit → Env → Heap → Prop) (F : Heap) (its : List Item) (a : Act) (w : World) : Prop :=
  ∀ (b : Frame) (k : List Item) (cs : List Frame), b.roundOf = (Fr r).round →
    ∃ e a' w', Aft F Q e a' w' ∧ ArrivesIn (Machine.fenced P (Fr r)) P (lone (b.atR a (its ++ .inScope c :: k)) cs w) b k cs e a' w'

theorem calmR {fr : Frame} {cs : List Frame} {w : World} (ha : fr.about P w = none) : (lone fr cs w).fenced P (Fr r) :=
  fenced_calm (n := 0) (Fr_fn _ _) (Fr_room _ _) ha

theorem stepR_scope {b : Frame} {a : Act} {k : List Item} {cs : List Frame} {w : World} {c : Code} :
    step P (lone (b.atR a (.code (.scope c) :: k)) cs w) = .next (lone (b.atR a (.code c :: .inScope c :: k)) cs w) :=
  step_lone_go (by simp [stepG, stepG.exec, Frame.atR])
theorem stepR_inScope {b : Frame} {a : Act} {k : List Item} {cs : List Frame} {w : World} {c : Code} :
    step P (lone (b.atR a (.inScope c :: k)) cs w) = .next (lone (b.atR a k) cs w) :=
  step_lone_go (by simp [stepG, stepG.exec, Frame.atR])

theorem Ok.step {c : Code} {F : Heap} {its its' : List Item} {a : Act} {w : World}
    (hs : ∀ (b : Frame) (k : List Item) (cs : List Frame), step P (lone (b.atR a (its ++ k)) cs w) = .next (lone (b.atR a (its' ++ k)) cs w))
    (ha : ∀ (b : Frame) (k : List Item), (b.atR a (its ++ k)).about P w = none) (h : Ok P r c Q F its' a w) : Ok P r c Q F its a w := by
  intro b k cs hro
  obtain ⟨e, a', w', hq, harr⟩ := h b k cs hro
  exact ⟨e, a', w', hq, .of_steps (.one (calmR (ha _ _)) (hs _ _ _)) harr⟩

theorem rest_items (c : Code) (l : Nat) : ∀ (rest : Code), findLabel c l = some rest → ∀ (b : Frame) (a : Act) (k : List Item) (cs : List Frame) (w : World),
    StepsIn (Machine.fenced P (Fr r)) P (lone (b.atR a (.code rest :: k)) cs w) (lone (b.atR a (itemsL c l ++ k)) cs w) := by
  induction c with
  | seq x y ihx ihy =>
    intro rest h b a k cs w
    simp only [findLabel] at h
    simp only [itemsL, hasL_find]
    cases hx : findLabel x l with
    | some rx =>
      rw [hx] at h
      simp only [Option.some.injEq] at h
      subst h
      simp only [Option.isSome_some, if_true, List.append_assoc, List.singleton_append]
      exact .head (calmR rfl) stepR_seq (ihx rx hx b a _ cs w)
    | none =>
      rw [hx] at h
      simp only [Option.isSome_none, Bool.false_eq_true, if_false]
      exact ihy rest h b a k cs w
  | label l' =>
    intro rest h b a k cs w
    simp only [findLabel] at h
    split at h
    · simp only [Option.some.injEq] at h; subst h
      exact .one (calmR rfl) stepR_skip
    · cases h
  | _ => intro rest h; cases h

/-- Pending items are code alone. -/
def plainIts (p : List Item) : Prop := ∀ x ∈ p, ∃ c, x = .code c

theorem exitTo_its {p : List Item} (hp : plainIts p) (id : Nat) (k : List Item) : exitTo id (p ++ k) = exitTo id k := by
  induction p with
  | nil => rfl
  | cons x p ih =>
    obtain ⟨c, rfl⟩ := hp x (by simp)
    rw [List.cons_append, exitTo_plain rfl]
    exact ih fun y hy => hp y (by simp [hy])
theorem gotoIn_its {p : List Item} (hp : plainIts p) (l : Nat) (k : List Item) : gotoIn l (p ++ k) = gotoIn l k := by
  induction p with
  | nil => rfl
  | cons x p ih =>
    obtain ⟨c, rfl⟩ := hp x (by simp)
    rw [List.cons_append, gotoIn_plain rfl]
    exact ih fun y hy => hp y (by simp [hy])

theorem plain_itemsL (c : Code) (l : Nat) : plainIts (itemsL c l) := by
  induction c with
  | seq x y ihx ihy =>
    simp only [itemsL]
    split
    · intro z hz
      rcases List.mem_append.1 hz with h | h
      · exact ihx z h
      · simp at h; exact ⟨y, h⟩
    · exact ihy
  | _ => intro z hz; cases hz

/-- A piece of code with what is pending behind it. -/
theorem Ok_of_V {c x : Code} {p : List Item} {α : Env} {H F : Heap} {a : Act} {w : World} {M : List Nat} {J : Nat → Env → Heap → Prop} {K : Env → Heap → Prop}
    (hp : plainIts p) (hJ : ∀ l α H, hasL c l = true → J l α H → ∀ a w M, St a w α H F M → Ok P r c Q F (itemsL c l) a w)
    (hK : ∀ α H, K α H → ∀ a w M, St a w α H F M → Ok P r c Q F p a w)
    (hv : V P r x (then_ K (jmp c J Q)) α H) (s : St a w α H F M) : Ok P r c Q F (.code x :: p) a w := by
  intro b k cs hro
  obtain ⟨e, a₁, w₁, hq, harr⟩ := hv a w F M s b (p ++ .inScope c :: k) cs hro (Fr_fn _ _) (Fr_room _ _)
  obtain ⟨α₁, H₁, M₁, s₁, q⟩ := hq
  cases e with
  | normal =>
    obtain ⟨e₂, a₂, w₂, hq₂, harr₂⟩ := hK _ _ q a₁ w₁ M₁ s₁ b k cs hro
    exact ⟨e₂, a₂, w₂, hq₂, .of_steps harr harr₂⟩
  | exit id =>
    refine ⟨.exit id, a₁, w₁, ⟨α₁, H₁, M₁, s₁, q⟩, fun k' hk => harr.1 k' ?_, fun hr hk => harr.2 hr ?_⟩
    · rw [exitTo_its hp]; simpa [exitTo] using hk
    · rw [exitTo_its hp]; simpa [exitTo] using hk
  | goto l =>
    simp only [then_, jmp] at q
    by_cases hl : hasL c l = true
    · rw [if_pos hl] at q
      obtain ⟨rest, hrest⟩ := Option.isSome_iff_exists.1 ((hasL_find c l) ▸ hl)
      have h1 := harr.1 (.code rest :: .inScope c :: k) (by rw [gotoIn_its hp]; simp [gotoIn, hrest])
      obtain ⟨e₂, a₂, w₂, hq₂, harr₂⟩ := hJ l _ _ hl q a₁ w₁ M₁ s₁ b k cs hro
      exact ⟨e₂, a₂, w₂, hq₂, .of_steps (StepsIn.trans h1 (rest_items c l rest hrest b a₁ _ cs w₁)) harr₂⟩
    · rw [if_neg hl] at q
      have hn : findLabel c l = none := by
        have := hasL_find c l
        cases hf : findLabel c l with
        | none => rfl
        | some x => rw [hf] at this; exact absurd this hl
      refine ⟨.goto l, a₁, w₁, ⟨α₁, H₁, M₁, s₁, q⟩, fun k' hk => harr.1 k' ?_, fun hr hk => harr.2 hr ?_⟩
      · rw [gotoIn_its hp]; simpa [gotoIn, hn] using hk
      · rw [gotoIn_its hp]; simpa [gotoIn, hn] using hk
  | ret => exact ⟨.ret, a₁, w₁, ⟨α₁, H₁, M₁, s₁, q⟩, harr⟩
  | panic ch => exact ⟨.panic ch, a₁, w₁, ⟨α₁, H₁, M₁, s₁, q⟩, harr⟩
  | outgrown => exact ⟨.outgrown, a₁, w₁, ⟨α₁, H₁, M₁, s₁, q⟩, harr⟩

theorem seg_none {c : Code} {F : Heap} {J : Nat → Env → Heap → Prop}
    (hJ : ∀ l α H, hasL c l = true → J l α H → ∀ a w M, St a w α H F M → Ok P r c Q F (itemsL c l) a w) :
    ∀ (x : Code) (p : List Item) (K : Env → Heap → Prop) (α : Env) (H : Heap), (labs x).Nodup → plainIts p →
      (∀ l, hasL x l = true → hasL c l = true ∧ itemsL c l = itemsL x l ++ p) →
      (∀ α H, K α H → ∀ a w M, St a w α H F M → Ok P r c Q F p a w) →
      segV P r J none x (then_ K (jmp c J Q)) α H → ∀ a w M, St a w α H F M → Ok P r c Q F (.code x :: p) a w := by
  intro x
  induction x with
  | seq x y ihx ihy =>
    intro p K α H hd hp hl hK hs a w M s
    simp only [segV] at hs
    by_cases hemp : (labs x ++ labs y).isEmpty = true
    · rw [if_pos hemp] at hs
      exact Ok_of_V hp hJ hK hs s
    rw [if_neg hemp] at hs
    obtain ⟨hdx, hdy, hxy⟩ := List.nodup_append.1 hd
    refine Ok.step (its' := .code x :: .code y :: p) (fun b k cs => by simpa using stepR_seq) (fun b k => rfl) ?_
    refine ihx (.code y :: p) (segV P r J none y (then_ K (jmp c J Q))) α H hdx ?_ ?_ ?_ ?_ a w M s
    · intro z hz
      rcases List.mem_cons.1 hz with rfl | h
      · exact ⟨y, rfl⟩
      · exact hp z h
    · intro l h
      have := hl l (by simp [hasL, h])
      refine ⟨this.1, ?_⟩
      rw [this.2]; simp [itemsL, h]
    · intro α' H' hk a' w' M' s'
      refine ihy p K α' H' hdy hp (fun l h => ?_) hK hk a' w' M' s'
      have := hl l (by simp [hasL, h])
      have hx : hasL x l = false := by
        cases hxl : hasL x l with
        | false => rfl
        | true => exact absurd rfl (hxy l ((hasL_labs x l).1 hxl) l ((hasL_labs y l).1 h))
      refine ⟨this.1, ?_⟩
      rw [this.2]; simp [itemsL, hx]
    · have e1 : then_ (segV P r J none y (then_ K (jmp c J Q))) (then_ K (jmp c J Q)) = then_ (segV P r J none y (then_ K (jmp c J Q))) (jmp c J Q) := by
        funext e α H; cases e <;> rfl
      rw [e1] at hs; exact hs
  | label l =>
    intro p K α H _ hp hl hK hs a w M s
    have := hl l (by simp [hasL])
    refine Ok.step (its' := p) (fun b k cs => by simpa using stepR_label) (fun b k => rfl) ?_
    have h2 := hJ l α H this.1 hs a w M s
    rw [this.2] at h2
    simpa [itemsL] using h2
  | _ => intro p K α H _ hp hl hK hs a w M s; exact Ok_of_V hp hJ hK hs s

theorem seg_some {c : Code} {F : Heap} {J : Nat → Env → Heap → Prop}
    (hJ : ∀ l α H, hasL c l = true → J l α H → ∀ a w M, St a w α H F M → Ok P r c Q F (itemsL c l) a w) (l₀ : Nat) :
    ∀ (x : Code) (p : List Item) (K : Env → Heap → Prop) (α : Env) (H : Heap), (labs x).Nodup → plainIts p →
      (∀ l, hasL x l = true → hasL c l = true ∧ itemsL c l = itemsL x l ++ p) →
      (∀ α H, K α H → ∀ a w M, St a w α H F M → Ok P r c Q F p a w) →
      segV P r J (some l₀) x (then_ K (jmp c J Q)) α H → ∀ a w M, St a w α H F M → Ok P r c Q F (itemsL x l₀ ++ p) a w := by
  intro x
  induction x with
  | seq x y ihx ihy =>
    intro p K α H hd hp hl hK hs a w M s
    obtain ⟨hdx, hdy, hxy⟩ := List.nodup_append.1 hd
    have hplain : plainIts (.code y :: p) := by
      intro z hz
      rcases List.mem_cons.1 hz with rfl | h
      · exact ⟨y, rfl⟩
      · exact hp z h
    have hly : ∀ l, hasL y l = true → hasL c l = true ∧ itemsL c l = itemsL y l ++ p := by
      intro l h
      have := hl l (by simp [hasL, h])
      have hx : hasL x l = false := by
        cases hxl : hasL x l with
        | false => rfl
        | true => exact absurd rfl (hxy l ((hasL_labs x l).1 hxl) l ((hasL_labs y l).1 h))
      refine ⟨this.1, ?_⟩
      rw [this.2]; simp [itemsL, hx]
    simp only [segV] at hs
    by_cases hx : hasL x l₀ = true
    · rw [if_pos hx] at hs
      simp only [itemsL, hx, if_true, List.append_assoc, List.singleton_append]
      refine ihx (.code y :: p) (segV P r J none y (then_ K (jmp c J Q))) α H hdx hplain ?_ ?_ ?_ a w M s
      · intro l h
        have := hl l (by simp [hasL, h])
        refine ⟨this.1, ?_⟩
        rw [this.2]; simp [itemsL, h]
      · intro α' H' hk a' w' M' s'
        exact seg_none hJ y p K α' H' hdy hp hly hK hk a' w' M' s'
      · have e1 : then_ (segV P r J none y (then_ K (jmp c J Q))) (then_ K (jmp c J Q)) = then_ (segV P r J none y (then_ K (jmp c J Q))) (jmp c J Q) := by
          funext e α H; cases e <;> rfl
        rw [e1] at hs; exact hs
    · rw [if_neg hx] at hs
      simp only [itemsL, hx, if_false, Bool.false_eq_true]
      exact ihy p K α H hdy hp hly hK hs a w M s
  | label l =>
    intro p K α H _ hp hl hK hs a w M s
    simpa [itemsL] using hK α H hs a w M s
  | _ => intro p K α H _ hp hl hK hs; exact hs.elim

theorem V_scope {c : Code} {α : Env} {H : Heap} (hd : (labs c).Nodup)
    (h : ∀ J : Nat → Env → Heap → Prop, (∀ l α β H, hasL c l = true → (∀ t : Array Value, EnvOk α t → EnvOk β t) → segV P r J (some l) c (jmp c J Q) β H → J l α H) → segV P r J none c (jmp c J Q) α H) :
    V P r (.scope c) Q α H := by
  have e1 : ∀ J, then_ (Q .normal) (jmp c J Q) = jmp c J Q := by intro J; funext e α H; cases e <;> rfl
  intro a w F M s b k cs hro hb hr
  let J : Nat → Env → Heap → Prop := fun l α H => hasL c l = true → ∀ a w M, St a w α H F M → Ok P r c Q F (itemsL c l) a w
  have hnil : ∀ α H, Q .normal α H → ∀ a w M, St a w α H F M → Ok P r c Q F [] a w := by
    intro α H hq a w M s b k cs hro
    exact ⟨.normal, a, w, ⟨α, H, M, s, hq⟩, .one (calmR rfl) stepR_inScope⟩
  have hJ : ∀ l α H, hasL c l = true → J l α H → ∀ a w M, St a w α H F M → Ok P r c Q F (itemsL c l) a w := fun l α H hl hj => hj hl
  have h1 := h J (fun l α β H _ hw hs hl a w M s => by
    have := seg_some (P := P) (r := r) (Q := Q) hJ l c [] (Q .normal) β H hd (fun _ hx => by cases hx) (fun l hl => ⟨hl, by simp⟩) hnil (by rw [e1]; exact hs) a w M ⟨hw _ s.env, s.satH, s.satF, s.dis, s.defs, s.marks, s.nodup⟩
    simpa using this)
  obtain ⟨e, a', w', hq, harr⟩ := seg_none (P := P) (r := r) (Q := Q) hJ c [] (Q .normal) α H hd (fun _ hx => by cases hx) (fun l hl => ⟨hl, by simp⟩) hnil (by rw [e1]; exact h1) a w M s b k cs hro
  exact ⟨e, a', w', hq, .of_steps (.one (calmR rfl) stepR_scope) harr⟩

end scopes
end Go.Sl
namespace Go.Sl
open Go

def ev {β : Type} (o : Option β) (K : β → Prop) : Prop := match o with | some v => K v | none => False
@[simp] theorem ev_some {β : Type} (v : β) (K : β → Prop) : ev (some v) K = K v := rfl
@[simp] theorem ev_none {β : Type} (K : β → Prop) : ev (none : Option β) K = False := rfl
theorem ev_iff {β : Type} {o : Option β} {K : β → Prop} : ev o K ↔ ∃ v, o = some v ∧ K v := by cases o <;> simp [ev]
theorem ev.mono {β : Type} {o : Option β} {K K' : β → Prop} (h : ev o K) (hk : ∀ v, K v → K' v) : ev o K' := by cases o with | none => exact h | some v => exact hk v h

def Br (x : Value) (A B : Prop) : Prop := (∃ c, x = .bool c) ∧ (x = .bool true → A) ∧ (x = .bool false → B)
theorem Br_bool (c : Bool) (A B : Prop) : Br (.bool c) A B ↔ (c = true → A) ∧ (c = false → B) := by simp [Br]

/-! ### Reading and writing -/
def Blk.rd : Blk → Nat → Option Value
  | .cs c _, i => c[i]?
  | .ob (.cells c _ _), i => c[i]?
  | .ob _, _ => none
  | .gh (.cells c _ _) _, i => c[i]?
  | .gh _ _, _ => none

def rdn (k : Blk) : Nat → Nat → Option (List Value)
  | _, 0 => some []
  | off, n + 1 => match k.rd off with
    | some v => match rdn k (off + 1) n with
      | some l => some (v :: l)
      | none => none
    | none => none

/-- A variable of one cell. -/
def ld1 (H : Heap) : Value → Option Value
  | .pointer (some ⟨b, off, none⟩) => match H b with
    | some k => k.rd off
    | none => none
  | _ => none
/-- A struct or an array of n cells. -/
def ldn (n : Nat) (H : Heap) : Value → Option Value
  | .pointer (some ⟨b, off, none⟩) => match H b with
    | some k => match rdn k off n with
      | some l => some (.agg l.toArray)
      | none => none
    | none => none
  | _ => none

/-- Cells put over a row's, from a place on. -/
def over (c : List Value) (off : Nat) (vs : List Value) : List Value := c.take off ++ vs ++ c.drop (off + vs.length)

def flat (vs : List Value) : Bool := vs.all (·.oneCell')

def sto (n : Nat) (H : Heap) (p v : Value) : Option Heap :=
  match p with
  | .pointer (some ⟨b, off, none⟩) => match H b with
    | some (.cs c e) => if v.cells.size = n ∧ off + n ≤ c.length ∧ flat v.cells.toList = true then some (upd H b (.cs (over c off v.cells.toList) e)) else none
    | _ => none
  | _ => none

/-! ### Values -/
def pickV (c x y : Value) : Option Value := match c with | .bool c => some (bif c then x else y) | _ => none
def nilV (x : Value) : Option Value := match x with
  | .pointer (some a) => some (.pointer (some a))
  | .func (.func f) p c => some (.func (.func f) p c)
  | .func (.yield f) p c => some (.func (.yield f) p c)
  | _ => none

def intV (op : BinOp) (x y : Value) : Option Value :=
  match x, y with
  | .int k a, .int k' b => if k = k' then
      match op with
      | .add => some (.int k (k.wrap (a + b)))
      | .sub => some (.int k (k.wrap (a - b)))
      | .mul => some (.int k (k.wrap (a * b)))
      | .quo => if b = 0 then none else some (.int k (k.wrap (a.tdiv b)))
      | .rem => if b = 0 then none else some (.int k (a.tmod b))
      | .and => some (.int k (k.wrap (BitVec.ofInt k.bits a &&& BitVec.ofInt k.bits b).toNat))
      | .or => some (.int k (k.wrap (BitVec.ofInt k.bits a ||| BitVec.ofInt k.bits b).toNat))
      | .xor => some (.int k (k.wrap (BitVec.ofInt k.bits a ^^^ BitVec.ofInt k.bits b).toNat))
      | .andNot => some (.int k (k.wrap (BitVec.ofInt k.bits a &&& ~~~ (BitVec.ofInt k.bits b)).toNat))
      | .eql => some (.bool (a == b))
      | .neq => some (.bool (a != b))
      | .lss => some (.bool (decide (a < b)))
      | .leq => some (.bool (decide (a ≤ b)))
      | .gtr => some (.bool (decide (a > b)))
      | .geq => some (.bool (decide (a ≥ b)))
      | .shl => none
      | .shr => none
    else none
  | _, _ => none
def shV (op : BinOp) (x y : Value) : Option Value :=
  match x, y with
  | .int k a, .int _ b => if b < 0 then none else match op with
      | .shl => some (.int k (k.wrap (a * 2 ^ (min b.toNat k.bits))))
      | .shr => some (.int k (a.fdiv (2 ^ (min b.toNat k.bits))))
      | _ => none
  | _, _ => none

def eqB (x y : Value) : Option Bool := match x, y with
  | .bool a, .bool b => some (a == b)
  | _, _ => none
def eqP (x y : Value) : Option Bool := match x, y with
  | .pointer none, .pointer b => some b.isNone
  | .pointer (some _), .pointer none => some false
  | _, _ => none
def eqS (x y : Value) : Option Bool := match x, y with
  | .slice none _ _, .slice b _ _ => some b.isNone
  | .slice (some _) _ _, .slice none _ _ => some false
  | _, _ => none
def eqM (x y : Value) : Option Bool := match x, y with
  | .map none, .map b => some b.isNone
  | .map (some _), .map none => some false
  | _, _ => none
def eqF (x y : Value) : Option Bool := match x, y with
  | .nilFunc, .nilFunc => some true
  | .nilFunc, .func _ _ _ => some false
  | .func _ _ _, .nilFunc => some false
  | _, _ => none
/-- Structs of whole numbers and truths, cell by cell; the first list tells of what kind each cell is. -/
def eqC : List Value → List Value → List Value → Option Bool
  | [], [], [] => some true
  | .int k _ :: z, .int k1 a :: r, .int k2 b :: s => if k1 = k ∧ k2 = k then match eqC z r s with | some t => some ((a == b) && t) | none => none else none
  | .bool _ :: z, .bool a :: r, .bool b :: s => match eqC z r s with | some t => some ((a == b) && t) | none => none
  | _, _, _ => none
def eqA (z : List Value) (x y : Value) : Option Bool := match x, y with
  | .agg a, .agg b => eqC z a.toList b.toList
  | _, _ => none
theorem eqC_nil {a b : List Value} {r : Bool} (h : eqC [] a b = some r) : a = [] ∧ b = [] ∧ r = true := by
  cases a <;> cases b <;> simp [eqC] at h
  exact ⟨rfl, rfl, h⟩
theorem eqC_int {k : IntKind} {n : Int} {z a b : List Value} {r : Bool} (h : eqC (.int k n :: z) a b = some r) : ∃ x y a' b' t, a = .int k x :: a' ∧ b = .int k y :: b' ∧ eqC z a' b' = some t ∧ r = ((x == y) && t) := by
  rcases a with _ | ⟨a0, a⟩
  · simp [eqC] at h
  rcases b with _ | ⟨b0, b⟩
  · cases a0 <;> simp [eqC] at h
  cases a0 <;> cases b0 <;> simp only [eqC] at h <;> try cases h
  rename_i k1 x k2 y
  split at h
  · rename_i hk
    obtain ⟨rfl, rfl⟩ := hk
    split at h
    · rename_i t ht; cases h; exact ⟨x, y, a, b, t, rfl, rfl, ht, rfl⟩
    · cases h
  · cases h
theorem eqC_bool {c : Bool} {z a b : List Value} {r : Bool} (h : eqC (.bool c :: z) a b = some r) : ∃ x y a' b' t, a = .bool x :: a' ∧ b = .bool y :: b' ∧ eqC z a' b' = some t ∧ r = ((x == y) && t) := by
  rcases a with _ | ⟨a0, a⟩
  · simp [eqC] at h
  rcases b with _ | ⟨b0, b⟩
  · cases a0 <;> simp [eqC] at h
  cases a0 <;> cases b0 <;> simp only [eqC] at h <;> try cases h
  rename_i x y
  split at h
  · rename_i t ht; cases h; exact ⟨x, y, a, b, t, rfl, rfl, ht, rfl⟩
  · cases h
def notB (neg : Bool) (o : Option Bool) : Option Value := match o with | some b => some (.bool (if neg then !b else b)) | none => none

def pvS {β : Type} : Sem β → Option β
  | .pure a => some a
  | _ => none
theorem pvS_run {β : Type} {s : Sem β} {v : β} (h : pvS s = some v) (P : Program) (w : World) : s.run P w = .ok v w := by
  cases s <;> simp [pvS] at h
  subst h; rfl

def fltV (op : BinOp) (x y : Value) : Option Value := match x, y with
  | .float k a, .float k' b => if k = k' then (match op with
      | .add => pvS (Op.floatArith .add k a b) | .sub => pvS (Op.floatArith .sub k a b) | .mul => pvS (Op.floatArith .mul k a b) | .quo => pvS (Op.floatArith .quo k a b)
      | op => pvS (Op.floatCmp op k a b)) else none
  | .complex k a b, .complex k' c d => if k = k' then pvS (Op.complexOp op k a b c d) else none
  | _, _ => none
def strV (op : BinOp) (x y : Value) : Option Value := match x, y with
  | .string a, .string b => pvS (Op.stringOp op a b)
  | _, _ => none

def unV (op : UnOp) (x : Value) : Option Value := match op, x with
  | .neg, .int k n => some (.int k (k.wrap (0 - n)))
  | .not, .bool b => some (.bool !b)
  | _, _ => none
def convV (k : IntKind) (x : Value) : Option Value := match x with | .int _ n => some (.int k (k.wrap n)) | _ => none
def convF (k : FloatKind) (x : Value) : Option Value := match x with | .int _ n => some (.float k (k.nearest n)) | _ => none

def fldA (off : Nat) (x : Value) : Option Value := match x with | .pointer (some a) => some (.pointer (some (a.add off))) | _ => none
def prtV (ag : Bool) (off n : Nat) (x : Value) : Option Value := match x with
  | .agg cs => if ag then some (.agg (cs.extract off (off + n))) else cs[off]?
  | _ => none
/-- The address of an element of a slice. -/
def ixS (n : Nat) (x i : Value) : Option Value := match x, i with
  | .slice (some a) len _, .int _ i => if 0 ≤ i ∧ i < len then some (.pointer (some (a.add (i.toNat * n)))) else none
  | _, _ => none
/-- The address of an element of an array of len. -/
def ixP (len n : Nat) (x i : Value) : Option Value := match x, i with
  | .pointer (some a), .int _ i => if 0 ≤ i ∧ i < len then some (.pointer (some (a.add (i.toNat * n)))) else none
  | _, _ => none
/-- An element of an array's value. -/
def ixA (len : Nat) (ag : Bool) (n : Nat) (x i : Value) : Option Value := match x, i with
  | .agg cs, .int _ i => if 0 ≤ i ∧ i < len then (if ag then some (.agg (cs.extract (i.toNat * n) (i.toNat * n + n))) else cs[i.toNat * n]?) else none
  | _, _ => none
def ixT (x i : Value) : Option Value := match x, i with
  | .string s, .int _ i => if 0 ≤ i then (match s[i.toNat]? with | some b => some (.int .u8 b.toNat) | none => none) else none
  | _, _ => none

def bnd (y : Nat) (x : Value) : Option Nat := match x with | .int _ i => if 0 ≤ i ∧ i ≤ y then some i.toNat else none | _ => none
/-- 'x[lo:hi]', 'x[lo:hi:mx]': low, high, most. -/
def bnds (len cap : Nat) (lo hi mx : Option Value) : Option (Nat × Nat × Nat) :=
  match (match mx with | some v => bnd cap v | none => some cap) with
  | none => none
  | some m => match (match hi, mx with | some v, _ => bnd m v | none, none => some len | none, some _ => none) with
    | none => none
    | some h => match (match lo with | some v => bnd h v | none => some 0) with
      | none => none
      | some l => some (l, h, m)
def slV (n : Nat) (x : Value) (lo hi mx : Option Value) : Option Value := match x with
  | .slice a len cap => match bnds len cap lo hi mx with
    | some (l, h, m) => some (.slice (if m = l then a else a.map (·.add (l * n))) (h - l) (m - l))
    | none => none
  | _ => none
def slP (len n : Nat) (x : Value) (lo hi mx : Option Value) : Option Value := match x with
  | .pointer (some a) => match bnds len len lo hi mx with
    | some (l, h, m) => some (.slice (some (if m = l then a else a.add (l * n))) (h - l) (m - l))
    | none => none
  | _ => none
def slT (x : Value) (lo hi : Option Value) : Option Value := match x with
  | .string s => match bnds s.size s.size lo hi none with
    | some (l, h, _) => some (.string (s.extract l h))
    | none => none
  | _ => none
def lenS (x : Value) : Option Value := match x with | .slice _ n _ => some (.int .i64 n) | _ => none
def lenT (x : Value) : Option Value := match x with | .string s => some (.int .i64 s.size) | _ => none
def lenM (H : Heap) (x : Value) : Option Value := match x with
  | .map none => some (.int .i64 0)
  | .map (some r) => match H r with | some (.ob (.map es _)) => some (.int .i64 es.size) | _ => none
  | _ => none
def capV (x : Value) : Option Value := match x with | .slice _ _ n => some (.int .i64 n) | _ => none
def minV (x y : Value) : Option Value := match x, y with
  | .int k x, .int _ y => some (.int k (if y < x then y else x))
  | .float k x, .float k' y => pvS (Builtin.min2 (.float k x) (.float k' y))
  | _, _ => none
def maxV (x y : Value) : Option Value := match x, y with
  | .int k x, .int _ y => some (.int k (if y > x then y else x))
  | .float k x, .float k' y => pvS (Builtin.max2 (.float k x) (.float k' y))
  | _, _ => none
def realV (x : Value) : Option Value := match x with | .complex k re _ => some (.float k re) | _ => none
def imagV (x : Value) : Option Value := match x with | .complex k _ im => some (.float k im) | _ => none
def cplxV (x y : Value) : Option Value := match x, y with | .float k a, .float k' b => if k = k' then some (.complex k a b) else none | _, _ => none
def extrV (i : Nat) (x : Value) : Option Value := match x with | .tuple vs => vs[i]? | _ => none

/-- A struct or an array out of its parts. -/
def bldL (cells : List Value) : List (Nat × Nat × Value) → Option (List Value)
  | [] => some cells
  | (off, n, v) :: r => if v.cells.size = n ∧ off + n ≤ cells.length then bldL (over cells off v.cells.toList) r else none

/-! ### The rules of reading -/
section
variable {P : Program} {w : World} {H : Heap}

theorem rd_cell {b off : Nat} {k : Blk} {v : Value} (hw : w.heap[b]? = some k.obj) (h : k.rd off = some v) : w.cell? ⟨b, off, none⟩ = some v := by
  unfold World.cell?
  cases k with
  | cs c e => simp only [hw, Blk.obj]; simpa [Blk.rd] using h
  | ob o =>
    cases o <;> simp [Blk.rd] at h
    simp only [hw, Blk.obj]; simpa using h
  | gh o w0 =>
    cases o <;> simp [Blk.rd] at h
    simp only [hw, Blk.obj]; simpa using h

theorem rdn_get {k : Blk} : ∀ (n off : Nat) (l : List Value), rdn k off n = some l → l.length = n ∧ ∀ j v, l[j]? = some v → k.rd (off + j) = some v
  | 0, off, l, h => by simp [rdn] at h; subst h; simp
  | n + 1, off, l, h => by
    simp only [rdn] at h
    cases h1 : k.rd off with
    | none => simp [h1] at h
    | some v =>
      simp only [h1] at h
      cases h2 : rdn k (off + 1) n with
      | none => simp [h2] at h
      | some l' =>
        simp only [h2, Option.some.injEq] at h
        subst h
        obtain ⟨hl, hg⟩ := rdn_get n (off + 1) l' h2
        refine ⟨by simp [hl], fun j u hu => ?_⟩
        cases j with
        | zero => simp at hu; subst hu; simpa using h1
        | succ j => simp at hu; have := hg j u hu; rwa [show off + (j + 1) = off + 1 + j from by omega]

theorem run_isAgg {t : TypeId} {d : TypeDesc} (h : P.underlying t = some d) (w : World) : (isAgg t).run P w = .ok (match d with | .struct _ => true | .array _ _ => true | _ => false) w := by
  simp only [isAgg, Sem.run_bind, run_underlying h, Result.andThen_ok]
  cases d <;> rfl

theorem run_sizeOf {t : TypeId} {i : TypeInfo} (h : P.info? t = some i) (w : World) : (sizeOf t).run P w = .ok i.size w := by
  simp [sizeOf, typeInfo, h]

theorem ld1_run {t : TypeId} {d : TypeDesc} (hd : P.underlying t = some d) (hag : (match d with | .struct _ => true | .array _ _ => true | _ => false) = false) (s : Sat w H) {x v : Value} (h : ld1 H x = some v) :
    (Instr.loadAt t x).run P w = .ok v w := by
  unfold ld1 at h
  split at h
  · rename_i b off
    split at h
    · rename_i k hk
      have hc := rd_cell (s b k hk).1 h
      simp [Instr.loadAt, Instr.sureAddr, loadVar, run_isAgg hd, hag, hc]
    · cases h
  · cases h

theorem ldn_run {t : TypeId} {d : TypeDesc} {i : TypeInfo} (hd : P.underlying t = some d) (hag : (match d with | .struct _ => true | .array _ _ => true | _ => false) = true) (hi : P.info? t = some i) (s : Sat w H) {x v : Value} (h : ldn i.size H x = some v) :
    (Instr.loadAt t x).run P w = .ok v w := by
  unfold ldn at h
  split at h
  · rename_i b off
    split at h
    · rename_i k hk
      split at h
      · rename_i l hl
        simp only [Option.some.injEq] at h
        subst h
        obtain ⟨hlen, hg⟩ := rdn_get _ _ _ hl
        have := run_loadCells_list (P := P) (w := w) ⟨b, off, none⟩ l (fun j v hv => by
          have h1 := hg j v hv
          have h2 := rd_cell (s b k hk).1 h1
          unfold Addr.add
          split
          · rename_i h0; subst h0; simpa using h2
          · exact h2)
        rw [hlen] at this
        simp [Instr.loadAt, Instr.sureAddr, loadVar, run_isAgg hd, hag, run_sizeOf hi, this]
      · cases h
    · cases h
  · cases h

theorem over_length {c vs : List Value} {off : Nat} (h : off + vs.length ≤ c.length) : (over c off vs).length = c.length := by
  simp only [over, List.length_append, List.length_take, List.length_drop]; omega

end
end Go.Sl
namespace Go.Sl
open Go

def ob {β γ : Type} (o : Option β) (f : β → Option γ) : Option γ := match o with | some v => f v | none => none
theorem ob_some {β γ : Type} {o : Option β} {f : β → Option γ} {c : γ} (h : ob o f = some c) : ∃ v, o = some v ∧ f v = some c := by
  cases o with | none => cases h | some v => exact ⟨v, rfl, h⟩

def aggD : TypeDesc → Bool | .struct _ => true | .array _ _ => true | _ => false

/-- Optional operands. -/
def oo (ρ : Operand → Option Value) : Option Operand → Option (Option Value)
  | none => some none
  | some x => match ρ x with | some v => some (some v) | none => none
def os (ρ : Operand → Option Value) : List Operand → Option (List Value)
  | [] => some []
  | x :: r => match ρ x with
    | some v => match os ρ r with | some l => some (v :: l) | none => none
    | none => none

def szT (P : Program) (t : TypeId) : Option Nat := match P.info? t with | some i => some i.size | none => none
def zeT (P : Program) (t : TypeId) : Option (List Value) := match P.info? t with | some i => (match i.zero with | some z => some z.cells.toList | none => none) | none => none

def eqOp (P : Program) (E : List TypeId) (neg : Bool) (op : BinOp) (t : TypeId) (x y : Value) : Option Value :=
  match P.underlying t with
  | some (.int _) => intV op x y
  | some .bool => notB neg (eqB x y)
  | some (.pointer _) => notB neg (eqP x y)
  | some (.slice _) => notB neg (eqS x y)
  | some (.map _ _) => notB neg (eqM x y)
  | some (.func _ _ _) => notB neg (eqF x y)
  | some (.struct _) => if E.contains t then ob (zeT P t) fun z => notB neg (eqA z x y) else none
  | some (.array _ _) => if E.contains t then ob (zeT P t) fun z => notB neg (eqA z x y) else none
  | some (.float _) => fltV op x y
  | some (.complex _) => fltV op x y
  | some .string => strV op x y
  | _ => none

def arOp (P : Program) (op : BinOp) (t : TypeId) (x y : Value) : Option Value :=
  match P.underlying t with
  | some (.int _) => intV op x y
  | some (.float _) => fltV op x y
  | some (.complex _) => fltV op x y
  | some .string => strV op x y
  | _ => none

def binR (P : Program) (E : List TypeId) (op : BinOp) (t : TypeId) (x y : Value) : Option Value :=
  match op with
  | .shl => shV .shl x y
  | .shr => shV .shr x y
  | .eql => eqOp P E false .eql t x y
  | .neq => eqOp P E true .neq t x y
  | .add => arOp P .add t x y
  | .sub => arOp P .sub t x y
  | .mul => arOp P .mul t x y
  | .quo => arOp P .quo t x y
  | .rem => arOp P .rem t x y
  | .and => arOp P .and t x y
  | .or => arOp P .or t x y
  | .xor => arOp P .xor t x y
  | .andNot => arOp P .andNot t x y
  | .lss => arOp P .lss t x y
  | .leq => arOp P .leq t x y
  | .gtr => arOp P .gtr t x y
  | .geq => arOp P .geq t x y

/-- Every field's type is known. -/
def fieldsOk (P : Program) (fs : Array Field) : Bool := fs.toList.all fun f => (szT P f.type).isSome
/-- Where the fields of a struct lie. -/
def plc (P : Program) (fs : Array Field) (i : Nat) : Option (Nat × Nat) := match fs[i]? with
  | some f => match szT P f.type with | some n => some (f.offset, n) | none => none
  | none => none
def pts (place : Nat → Option (Nat × Nat)) (ρ : Operand → Option Value) : List (Nat × Operand) → Option (List (Nat × Nat × Value))
  | [] => some []
  | (i, x) :: r => match place i with
    | some (off, n) => match ρ x with
      | some v => match pts place ρ r with | some l => some ((off, n, v) :: l) | none => none
      | none => none
    | none => none

def bldV (z : List Value) (ps : List (Nat × Nat × Value)) : Option Value := ob (bldL z ps) fun l => some (.agg l.toArray)

def builtR (P : Program) (b : Builtin) (ts : List TypeId) (vs : List Value) (H : Heap) : Option Value :=
  match b, ts, vs with
  | .len, t :: _, [x] => match P.underlying t with
    | some (.slice _) => lenS x
    | some .string => lenT x
    | some (.array n _) => some (.int .i64 n)
    | some (.map _ _) => lenM H x
    | _ => none
  | .cap, t :: _, [x] => match P.underlying t with
    | some (.slice _) => capV x
    | _ => none
  | .min, _, [x, y] => minV x y
  | .max, _, [x, y] => maxV x y
  | .real, _, [x] => realV x
  | .imag, _, [x] => imagV x
  | .complex, _, [x, y] => cplxV x y
  | _, _, _ => none

def opR (P : Program) (E : List TypeId) (ρ : Operand → Option Value) (H : Heap) : Op → Option Value
  | .move x => ρ x
  | .assign x => ρ x
  | .pick c a b => ob (ρ c) fun c => ob (ρ a) fun a => ob (ρ b) fun b => pickV c a b
  | .load t a => ob (ρ a) fun a => match P.underlying t with
    | some d => match aggD d with
      | true => ob (szT P t) fun n => ldn n H a
      | false => ld1 H a
    | none => none
  | .nilCheck x => ob (ρ x) nilV
  | .binOp op t x y _ => ob (ρ x) fun x => ob (ρ y) fun y => binR P E op t x y
  | .unOp op _ x => ob (ρ x) (unV op)
  | .convert s d x => ob (ρ x) fun x => match P.underlying s, P.underlying d with
    | some (.int _), some (.int k) => convV k x
    | some (.int _), some (.float k) => convF k x
    | _, _ => none
  | .makeFunc fn first cap => ob (os ρ first.toList) fun a => ob (os ρ cap.toList) fun b => some (.func fn a.toArray b.toArray)
  | .slice t x lo hi mx => ob (ρ x) fun x => ob (oo ρ lo) fun lo => ob (oo ρ hi) fun hi => ob (oo ρ mx) fun mx => match P.underlying t with
    | some (.slice e) => ob (szT P e) fun n => slV n x lo hi mx
    | some (.array len e) => ob (szT P e) fun n => slP len n x lo hi mx
    | some .string => (match mx with | none => slT x lo hi | some _ => none)
    | _ => none
  | .fieldAddr s x f => ob (ρ x) fun x => match P.underlying s with
    | some (.struct fs) => match fs[f]? with
      | some fd => ob (szT P fd.type) fun n => if n = 0 then none else fldA fd.offset x
      | none => none
    | _ => none
  | .field t x f => ob (ρ x) fun x => match P.underlying t with
    | some (.struct fs) => match fs[f]? with
      | some fd => ob (szT P fd.type) fun n => (match P.underlying fd.type with | some d => prtV (aggD d) fd.offset n x | none => none)
      | none => none
    | _ => none
  | .indexAddr t x i => ob (ρ x) fun x => ob (ρ i) fun i => match P.underlying t with
    | some (.slice e) => ob (szT P e) fun n => ixS n x i
    | some (.array len e) => ob (szT P e) fun n => ixP len n x i
    | _ => none
  | .index t x i => ob (ρ x) fun x => ob (ρ i) fun i => match P.underlying t with
    | some (.array len e) => ob (szT P e) fun n => (match P.underlying e with | some d => ixA len (aggD d) n x i | none => none)
    | some .string => ixT x i
    | _ => none
  | .extract x i => ob (ρ x) (extrV i)
  | .build t parts => ob (zeT P t) fun z => match P.underlying t with
    | some (.struct fs) => if fieldsOk P fs = true then ob (pts (plc P fs) ρ parts.toList) fun ps => ob (bldL z ps) fun l => some (.agg l.toArray) else none
    | some (.array _ e) => ob (szT P e) fun n => ob (pts (fun i => some (i * n, n)) ρ parts.toList) fun ps => ob (bldL z ps) fun l => some (.agg l.toArray)
    | _ => none
  | .call ⟨.builtin b, args, ts⟩ => ob (os ρ args.toList) fun vs => builtR P b ts.toList vs H
  | _ => none

/-- Structs that '==' holds against each other cell by cell. -/
def EqPlain (P : Program) (t : TypeId) : Prop := ∀ (z : List Value) (a b : Array Value) (r : Bool) (w : World) (op : BinOp) (x y : Operand), zeT P t = some z → eqC z a.toList b.toList = some r →
  (Op.equal t (.agg a) (.agg b)).run P w = .ok r w ∧ (eqGuard op t x y (.agg a) (.agg b)).run P w = .ok () w
def EOk (P : Program) (E : List TypeId) : Prop := ∀ t ∈ E, EqPlain P t

section
variable {P : Program} {E : List TypeId} {w : World} {H : Heap} {ρ : Operand → Option Value} {ρc : Operand → Value}

theorem szT_some {t : TypeId} {n : Nat} (h : szT P t = some n) : ∃ i, P.info? t = some i ∧ i.size = n := by
  unfold szT at h; split at h
  · rename_i i hi; exact ⟨i, hi, by simpa using h⟩
  · cases h
theorem run_size {t : TypeId} {n : Nat} (h : szT P t = some n) (w : World) : (sizeOf t).run P w = .ok n w := by
  obtain ⟨i, hi, rfl⟩ := szT_some h; exact run_sizeOf hi w
theorem run_agg {t : TypeId} {d : TypeDesc} (h : P.underlying t = some d) (w : World) : (isAgg t).run P w = .ok (aggD d) w := by
  rw [run_isAgg h]; cases d <;> rfl
theorem run_zero {t : TypeId} {z : List Value} (h : zeT P t = some z) (w : World) : ∃ v, (zeroValue t).run P w = .ok v w ∧ v.cells.toList = z := by
  unfold zeT at h; split at h
  · rename_i i hi; split at h
    · rename_i v hv
      refine ⟨v, ?_, by simpa using h⟩
      simp only [zeroValue, typeInfo, Sem.run_bind, run_program, Result.andThen_ok, hi, hv, Sem.run_pure]
    · cases h
  · cases h

theorem load_run {t : TypeId} {d : TypeDesc} {a v : Value} (hd : P.underlying t = some d) (s : Sat w H)
    (h : (match aggD d with | true => ob (szT P t) fun n => ldn n H a | false => ld1 H a) = some v) : (Instr.loadAt t a).run P w = .ok v w := by
  cases hag : aggD d with
  | true =>
    rw [hag] at h
    obtain ⟨n, hn, h⟩ := ob_some h
    obtain ⟨i, hi, rfl⟩ := szT_some hn
    exact ldn_run hd (by cases d <;> first | rfl | simp [aggD] at hag) hi s h
  | false =>
    rw [hag] at h
    exact ld1_run hd (by cases d <;> first | rfl | simp [aggD] at hag) s h

theorem intV_run {op : BinOp} {x y v : Value} (t : TypeId) (h : intV op x y = some v) (h1 : op ≠ .shl) (h2 : op ≠ .shr) : (binOp op t x y).run P w = .ok v w := by
  unfold intV at h
  split at h
  · rename_i k a k' b
    split at h
    · rename_i hk; subst hk
      cases op <;> simp at h <;> first
        | exact absurd rfl h1
        | exact absurd rfl h2
        | (obtain ⟨h0, h⟩ := h; subst h; simp [binOp, Op.intDiv, h0])
        | (subst h; simp [binOp, Op.intArith, Op.intBits, Op.intCmp])
    · cases h
  · cases h
theorem shV_run {op : BinOp} {x y v : Value} (t : TypeId) (h : shV op x y = some v) : (binOp op t x y).run P w = .ok v w := by
  unfold shV at h
  split at h
  · split at h
    · cases h
    · rename_i hb
      cases op <;> simp at h <;> (subst h; simp [binOp, Op.shift, hb])
  · cases h
theorem fltV_run {op : BinOp} {x y v : Value} (t : TypeId) (h : fltV op x y = some v) (h1 : op ≠ .shl) (h2 : op ≠ .shr) : (binOp op t x y).run P w = .ok v w := by
  unfold fltV at h
  split at h
  · rename_i k a k' b
    split at h
    · rename_i hk; subst hk
      cases op <;> simp at h <;> first
        | exact absurd rfl h1
        | exact absurd rfl h2
        | (simp only [binOp, ne_eq, not_true, if_false]; exact pvS_run h P w)
    · cases h
  · rename_i k a b k' c d
    split at h
    · rename_i hk; subst hk
      cases op <;> first
        | exact absurd rfl h1
        | exact absurd rfl h2
        | (simp only [binOp, ne_eq, not_true, if_false]; exact pvS_run h P w)
    · cases h
  · cases h
theorem strV_run {op : BinOp} {x y v : Value} (t : TypeId) (h : strV op x y = some v) : (binOp op t x y).run P w = .ok v w := by
  unfold strV at h
  split at h
  · have := pvS_run h P w
    cases op <;> exact this
  · cases h

theorem equal_succ (t : TypeId) (x y : Value) : Op.equal t x y = Op.equalIn (9999 + 1) t x y := rfl

theorem eqB_run {t : TypeId} {x y : Value} {b : Bool} (hd : P.underlying t = some .bool) (h : eqB x y = some b) : (Op.equal t x y).run P w = .ok b w := by
  have hu := run_underlying hd w
  rw [equal_succ]
  generalize 9999 = n
  unfold eqB at h
  split at h <;> cases h <;> simp only [Op.equalIn, Sem.run_bind, hu, Result.andThen_ok, Sem.run_pure]
theorem eqP_run {t e : TypeId} {x y : Value} {b : Bool} (hd : P.underlying t = some (.pointer e)) (h : eqP x y = some b) : (Op.equal t x y).run P w = .ok b w := by
  have hu := run_underlying hd w
  rw [equal_succ]
  generalize 9999 = n
  unfold eqP at h
  split at h <;> cases h <;> simp only [Op.equalIn, Sem.run_bind, hu, Result.andThen_ok, Sem.run_pure]
theorem eqS_run {t e : TypeId} {x y : Value} {b : Bool} (hd : P.underlying t = some (.slice e)) (h : eqS x y = some b) : (Op.equal t x y).run P w = .ok b w := by
  have hu := run_underlying hd w
  rw [equal_succ]
  generalize 9999 = n
  unfold eqS at h
  split at h <;> cases h <;> simp only [Op.equalIn, Sem.run_bind, hu, Result.andThen_ok, Sem.run_pure, Option.isNone]
theorem eqM_run {t e k : TypeId} {x y : Value} {b : Bool} (hd : P.underlying t = some (.map k e)) (h : eqM x y = some b) : (Op.equal t x y).run P w = .ok b w := by
  have hu := run_underlying hd w
  rw [equal_succ]
  generalize 9999 = n
  unfold eqM at h
  split at h <;> cases h <;> simp only [Op.equalIn, Sem.run_bind, hu, Result.andThen_ok, Sem.run_pure, Option.isNone]
theorem eqF_run {t : TypeId} {ps rs : Array TypeId} {va : Bool} {x y : Value} {b : Bool} (hd : P.underlying t = some (.func ps rs va)) (h : eqF x y = some b) : (Op.equal t x y).run P w = .ok b w := by
  have hu := run_underlying hd w
  rw [equal_succ]
  generalize 9999 = n
  unfold eqF at h
  split at h <;> cases h <;> simp only [Op.equalIn, Sem.run_bind, hu, Result.andThen_ok, Sem.run_pure]

/-- '==' and '!=' on values that are neither numbers nor texts. -/
theorem eql_run {t : TypeId} {x y : Value} {b : Bool} (h : (Op.equal t x y).run P w = .ok b w) (hx : match x with | .int _ _ => False | .float _ _ => False | .complex _ _ _ => False | .string _ => False | _ => True) :
    (binOp .eql t x y).run P w = .ok (.bool b) w ∧ (binOp .neq t x y).run P w = .ok (.bool (!b)) w := by
  cases x <;> simp only at hx <;> (refine ⟨?_, ?_⟩ <;> simp only [binOp, Sem.run_bind, h, Result.andThen_ok, Sem.run_pure])

def noGuard : Value → Bool | .nilIface => false | .agg _ => false | _ => true
theorem guard_run {op : BinOp} {t : TypeId} {x y : Operand} {a b : Value} (ha : noGuard a = true) : (eqGuard op t x y a b).run P w = .ok () w := by
  unfold eqGuard
  cases op <;> cases a <;> first | rfl | simp [noGuard] at ha
theorem guard_other {op : BinOp} {t : TypeId} {x y : Operand} {a b : Value} (h1 : op ≠ .eql) (h2 : op ≠ .neq) : (eqGuard op t x y a b).run P w = .ok () w := by
  unfold eqGuard
  cases op <;> first | rfl | exact absurd rfl h1 | exact absurd rfl h2

end
end Go.Sl
namespace Go.Sl
open Go

section
variable {P : Program} {E : List TypeId} {w : World} {H : Heap} {ρ : Operand → Option Value} {ρc : Operand → Value}

theorem notB_some {neg : Bool} {o : Option Bool} {v : Value} (h : notB neg o = some v) : ∃ b, o = some b ∧ v = .bool (if neg then !b else b) := by
  cases o with
  | none => cases h
  | some b => simp [notB] at h; exact ⟨b, rfl, h.symm⟩

theorem binOp_neg {t : TypeId} {x y : Value} {b neg : Bool} (h : (Op.equal t x y).run P w = .ok b w) (hx : match x with | .int _ _ => False | .float _ _ => False | .complex _ _ _ => False | .string _ => False | _ => True) (op : BinOp) (hop : op = if neg then .neq else .eql) :
    (binOp op t x y).run P w = .ok (.bool (if neg then !b else b)) w := by
  subst hop
  have := eql_run h hx
  cases neg
  · exact this.1
  · exact this.2

theorem eqOp_run (hE : EOk P E) {neg : Bool} {op : BinOp} (hop : op = if neg then .neq else .eql) {t : TypeId} {x y v : Value} (X Y : Operand) (h : eqOp P E neg op t x y = some v) :
    (eqGuard op t X Y x y).run P w = .ok () w ∧ (binOp op t x y).run P w = .ok v w := by
  have hs : op ≠ .shl ∧ op ≠ .shr := by subst hop; cases neg <;> simp
  unfold eqOp at h
  split at h
  case h_1 hd => 
    have : noGuard x = true := by unfold intV at h; split at h <;> first | rfl | cases h
    exact ⟨guard_run this, intV_run t h hs.1 hs.2⟩
  case h_2 hd =>
    obtain ⟨b, hb, rfl⟩ := notB_some h
    have hx : noGuard x = true := by unfold eqB at hb; split at hb <;> first | rfl | cases hb
    exact ⟨guard_run hx, binOp_neg (eqB_run hd hb) (by unfold eqB at hb; split at hb <;> first | trivial | cases hb) op hop⟩
  case h_3 hd =>
    obtain ⟨b, hb, rfl⟩ := notB_some h
    have hx : noGuard x = true := by unfold eqP at hb; split at hb <;> first | rfl | cases hb
    exact ⟨guard_run hx, binOp_neg (eqP_run hd hb) (by unfold eqP at hb; split at hb <;> first | trivial | cases hb) op hop⟩
  case h_4 hd =>
    obtain ⟨b, hb, rfl⟩ := notB_some h
    have hx : noGuard x = true := by unfold eqS at hb; split at hb <;> first | rfl | cases hb
    exact ⟨guard_run hx, binOp_neg (eqS_run hd hb) (by unfold eqS at hb; split at hb <;> first | trivial | cases hb) op hop⟩
  case h_5 hd =>
    obtain ⟨b, hb, rfl⟩ := notB_some h
    have hx : noGuard x = true := by unfold eqM at hb; split at hb <;> first | rfl | cases hb
    exact ⟨guard_run hx, binOp_neg (eqM_run hd hb) (by unfold eqM at hb; split at hb <;> first | trivial | cases hb) op hop⟩
  case h_6 hd =>
    obtain ⟨b, hb, rfl⟩ := notB_some h
    have hx : noGuard x = true := by unfold eqF at hb; split at hb <;> first | rfl | cases hb
    exact ⟨guard_run hx, binOp_neg (eqF_run hd hb) (by unfold eqF at hb; split at hb <;> first | trivial | cases hb) op hop⟩
  case h_7 hd =>
    split at h
    · rename_i hc
      obtain ⟨z, hz, h⟩ := ob_some h
      obtain ⟨b, hb, rfl⟩ := notB_some h
      unfold eqA at hb
      split at hb
      · have := hE t (by simpa using hc) z _ _ b w op X Y hz hb
        exact ⟨this.2, binOp_neg this.1 trivial op hop⟩
      · cases hb
    · cases h
  case h_8 hd =>
    split at h
    · rename_i hc
      obtain ⟨z, hz, h⟩ := ob_some h
      obtain ⟨b, hb, rfl⟩ := notB_some h
      unfold eqA at hb
      split at hb
      · have := hE t (by simpa using hc) z _ _ b w op X Y hz hb
        exact ⟨this.2, binOp_neg this.1 trivial op hop⟩
      · cases hb
    · cases h
  case h_9 hd =>
    have : noGuard x = true := by unfold fltV at h; split at h <;> first | rfl | cases h
    exact ⟨guard_run this, fltV_run t h hs.1 hs.2⟩
  case h_10 hd =>
    have : noGuard x = true := by unfold fltV at h; split at h <;> first | rfl | cases h
    exact ⟨guard_run this, fltV_run t h hs.1 hs.2⟩
  case h_11 hd =>
    have : noGuard x = true := by unfold strV at h; split at h <;> first | rfl | cases h
    exact ⟨guard_run this, strV_run t h⟩
  case h_12 => cases h

theorem arOp_run {op : BinOp} {t : TypeId} {x y v : Value} (h : arOp P op t x y = some v) (h1 : op ≠ .shl) (h2 : op ≠ .shr) : (binOp op t x y).run P w = .ok v w := by
  unfold arOp at h
  split at h
  · exact intV_run t h h1 h2
  · exact fltV_run t h h1 h2
  · exact fltV_run t h h1 h2
  · exact strV_run t h
  · cases h

theorem binR_run (hE : EOk P E) {op : BinOp} {t : TypeId} {x y v : Value} (X Y : Operand) (h : binR P E op t x y = some v) :
    (do eqGuard op t X Y x y; binOp op t x y : Sem Value).run P w = .ok v w := by
  have other : op ≠ .eql → op ≠ .neq → (binOp op t x y).run P w = .ok v w → (do eqGuard op t X Y x y; binOp op t x y : Sem Value).run P w = .ok v w := by
    intro h1 h2 h3
    simp only [Sem.run_bind, guard_other h1 h2, Result.andThen_ok, h3]
  cases op
  case eql =>
    have := eqOp_run (w := w) hE (neg := false) (op := .eql) rfl X Y h
    simp only [Sem.run_bind, this.1, this.2, Result.andThen_ok]
  case neq =>
    have := eqOp_run (w := w) hE (neg := true) (op := .neq) rfl X Y h
    simp only [Sem.run_bind, this.1, this.2, Result.andThen_ok]
  case shl => exact other (by simp) (by simp) (shV_run t h)
  case shr => exact other (by simp) (by simp) (shV_run t h)
  all_goals exact other (by simp) (by simp) (arOp_run h (by simp) (by simp))

theorem unV_run {op : UnOp} {x v : Value} (h : unV op x = some v) : (Op.unary op x).run P w = .ok v w := by
  unfold unV at h
  split at h
  · cases h; rfl
  · cases h; rfl
  · cases h

theorem part_run {t : TypeId} {d : TypeDesc} {n off : Nat} {v : Value} (hd : P.underlying t = some d) (hn : szT P t = some n) {cs : Array Value} (h : prtV (aggD d) off n (.agg cs) = some v) :
    (part t cs off).run P w = .ok v w := by
  unfold part
  simp only [Sem.run_bind, run_agg hd, Result.andThen_ok]
  unfold prtV at h
  cases hag : aggD d with
  | true =>
    simp only [hag, if_true, Option.some.injEq] at h
    subst h
    simp only [if_true, Sem.run_bind, run_size hn, Result.andThen_ok, Sem.run_pure]
  | false =>
    simp only [hag, Bool.false_eq_true, if_false] at h
    simp only [Bool.false_eq_true, if_false, h, Sem.run_pure]

theorem bnd_run {y : Nat} {x : Value} {n : Nat} (code : BoundsCode) (h : bnd y x = some n) : (Instr.sliceBound x y code).run P w = .ok n w := by
  unfold bnd at h
  split at h
  · rename_i k i
    split at h
    · rename_i hi
      cases h
      simp only [Instr.sliceBound, asIntOf, Sem.run_bind, Sem.run_pure, Result.andThen_ok, if_pos hi]
    · cases h
  · cases h

theorem bnds_run {len cap : Nat} {lo hi mx : Option Value} {r : Nat × Nat × Nat} (isS : Bool) (h : bnds len cap lo hi mx = some r) : (Instr.sliceBounds isS len cap lo hi mx).run P w = .ok r w := by
  unfold bnds at h
  unfold Instr.sliceBounds
  split at h
  · cases h
  · rename_i m hm
    split at h
    · cases h
    · rename_i h' hh
      split at h
      · cases h
      · rename_i l hl
        cases h
        cases mx with
        | none =>
          simp only [Option.some.injEq] at hm
          subst hm
          cases hi with
          | none =>
            simp only [Option.some.injEq] at hh
            subst hh
            cases lo with
            | none => simp only [Option.some.injEq] at hl; subst hl; simp only [Sem.run_bind, Sem.run_pure, Result.andThen_ok]
            | some v => simp only [Sem.run_bind, Sem.run_pure, Result.andThen_ok, bnd_run _ hl]
          | some u =>
            cases lo with
            | none => simp only [Option.some.injEq] at hl; subst hl; simp only [Sem.run_bind, Sem.run_pure, Result.andThen_ok, bnd_run _ hh]
            | some v => simp only [Sem.run_bind, Sem.run_pure, Result.andThen_ok, bnd_run _ hh, bnd_run _ hl]
        | some t =>
          cases hi with
          | none => cases hh
          | some u =>
            cases lo with
            | none => simp only [Option.some.injEq] at hl; subst hl; simp only [Sem.run_bind, Sem.run_pure, Result.andThen_ok, bnd_run _ hm, bnd_run _ hh]
            | some v => simp only [Sem.run_bind, Sem.run_pure, Result.andThen_ok, bnd_run _ hm, bnd_run _ hh, bnd_run _ hl]

theorem os_some {l : List Operand} {vs : List Value} (hρ : ∀ x v, ρ x = some v → ρc x = v) (h : os ρ l = some vs) : l.map ρc = vs := by
  induction l generalizing vs with
  | nil => simp [os] at h; subst h; rfl
  | cons x r ih =>
    simp only [os] at h
    cases h1 : ρ x with
    | none => simp [h1] at h
    | some v =>
      cases h2 : os ρ r with
      | none => simp [h1, h2] at h
      | some l' => simp only [h1, h2, Option.some.injEq] at h; subst h; simp [hρ x v h1, ih h2]
theorem oo_some {x : Option Operand} {v : Option Value} (hρ : ∀ x v, ρ x = some v → ρc x = v) (h : oo ρ x = some v) : x.map ρc = v := by
  cases x with
  | none => simp [oo] at h; subst h; rfl
  | some x =>
    simp only [oo] at h
    cases h1 : ρ x with
    | none => simp [h1] at h
    | some u => simp only [h1, Option.some.injEq] at h; subst h; simp [hρ x u h1]

/-- The cells of a part laid over a whole. -/
theorem fill_over (off : Nat) : ∀ (vs : List Value) (j : Nat) (cells : Array Value), off + j + vs.length ≤ cells.size →
    (vs.zipIdx j).foldl (fun (cs : Array Value) (p : Value × Nat) => cs.setIfInBounds (off + p.2) p.1) cells = (over cells.toList (off + j) vs).toArray
  | [], j, cells, _ => by simp [over]
  | v :: r, j, cells, h => by
    simp only [List.zipIdx_cons, List.foldl_cons]
    rw [fill_over off r (j + 1) _ (by simp at h ⊢; omega)]
    have hlt : off + j < cells.toList.length := by simp at h ⊢; omega
    congr 1
    simp only [over, Array.toList_setIfInBounds, List.length_cons]
    rw [List.drop_set_of_lt (by omega), show off + (j + 1) = off + j + 1 from by omega, List.take_set, List.take_succ_eq_append_getElem hlt]
    have hm : min (off + j) cells.size = off + j := Nat.min_eq_left (by simpa using Nat.le_of_lt hlt)
    rw [List.set_append_right _ _ (by simp [hm])]
    simp [hm, show off + j + (r.length + 1) = off + j + 1 + r.length from by omega]

theorem fill_run {place : Nat → Option (Nat × Nat)} : ∀ (ps : List (Nat × Operand)) (qs : List (Nat × Nat × Value)) (cells l : List Value), (∀ x v, ρ x = some v → ρc x = v) → pts place ρ ps = some qs → bldL cells qs = some l →
    Instr.fill place cells.toArray (ps.map fun (i, x) => (i, ρc x)) = some l.toArray
  | [], qs, cells, l, _, h1, h2 => by simp [pts] at h1; subst h1; simp [bldL] at h2; subst h2; rfl
  | (i, x) :: ps, qs, cells, l, hρ, h1, h2 => by
    simp only [pts] at h1
    cases hp : place i with
    | none => simp [hp] at h1
    | some on =>
      obtain ⟨off, n⟩ := on
      cases hx : ρ x with
      | none => simp [hp, hx] at h1
      | some v =>
        cases hr : pts place ρ ps with
        | none => simp [hp, hx, hr] at h1
        | some qs' =>
          simp only [hp, hx, hr, Option.some.injEq] at h1
          subst h1
          simp only [bldL] at h2
          split at h2
          · rename_i hc
            obtain ⟨hc1, hc2⟩ := hc
            simp only [List.map_cons, Instr.fill, hp, hρ x v hx]
            have hcond : (v.cells.size ≠ n || decide (off + v.cells.size > cells.toArray.size)) = false := by simp [hc1]; omega
            have : ¬ ((decide (v.cells.size ≠ n) || decide (off + v.cells.size > cells.toArray.size)) = true) := by simp [hc1]; omega
            rw [if_neg (by simpa using this)]
            have hf := fill_over off v.cells.toList 0 cells.toArray (by simp [hc1]; omega)
            have hz : v.cells.zipIdx.foldl (fun (cs : Array Value) (p : Value × Nat) => cs.setIfInBounds (off + p.2) p.1) cells.toArray = (over cells off v.cells.toList).toArray := by
              rw [← Array.foldl_toList, Array.toList_zipIdx]
              simpa using hf
            have hz' : v.cells.zipIdx.foldl (fun (cs : Array Value) (x : Value × Nat) => match x with | (c, j) => cs.setIfInBounds (off + j) c) cells.toArray = (over cells off v.cells.toList).toArray := hz
            rw [hz']
            exact fill_run ps qs' _ l hρ hr h2
          · cases h2

end
end Go.Sl
namespace Go.Sl
open Go

section
variable {P : Program} {E : List TypeId} {w : World} {H : Heap} {ρ : Operand → Option Value} {ρc : Operand → Value}

theorem run_val {s : Sem Value} {v : Value} {w w' : World} (h : s.run P w = .ok v w') : (do pure (Next.value (← s)) : Sem Next).run P w = .ok (.value v) w' := by
  simp only [Sem.run_bind, h, Result.andThen_ok, Sem.run_pure]

theorem mapM_run {α β : Type} {f : α → Sem β} {g : α → Option β} (hf : ∀ x y, g x = some y → ∀ w, (f x).run P w = .ok y w) : ∀ (l : List α) (ys : List β), l.mapM g = some ys → ∀ w, (l.mapM f).run P w = .ok ys w
  | [], ys, h, w => by simp at h; subst h; simp
  | x :: l, ys, h, w => by
    simp only [List.mapM_cons] at h
    cases h1 : g x with
    | none => simp [h1] at h
    | some y =>
      cases h2 : l.mapM g with
      | none => simp [h1, h2] at h
      | some ys' =>
        simp [h1, h2] at h
        subst h
        simp only [List.mapM_cons, Sem.run_bind, hf x y h1, Result.andThen_ok, mapM_run hf l ys' h2, Sem.run_pure]

/-- All fields' places, and that the machine finds them. -/
theorem places_run {fs : Array Field} (h : ∀ f ∈ fs.toList, (szT P f.type).isSome = true) : ∃ ps : Array (Nat × Nat),
    (∀ w, (fs.mapM fun (f : Field) => (do pure (f.offset, ← sizeOf f.type) : Sem (Nat × Nat))).run P w = .ok ps w) ∧ ∀ i, ps[i]? = plc P fs i := by
  have key : ∀ l : List Field, (∀ f ∈ l, (szT P f.type).isSome = true) → ∃ ps : List (Nat × Nat), (∀ w, (l.mapM fun (f : Field) => (do pure (f.offset, ← sizeOf f.type) : Sem (Nat × Nat))).run P w = .ok ps w) ∧
      ∀ i : Nat, ps[i]? = (l[i]?).bind fun (f : Field) => (szT P f.type).map fun n => (f.offset, n) := by
    intro l
    induction l with
    | nil => intro _; exact ⟨[], fun w => by simp, fun i => by simp⟩
    | cons f l ih =>
      intro hl
      obtain ⟨n, hn⟩ := Option.isSome_iff_exists.1 (hl f (by simp))
      obtain ⟨ps, h1, h2⟩ := ih fun g hg => hl g (by simp [hg])
      refine ⟨(f.offset, n) :: ps, fun w => ?_, fun i => ?_⟩
      · simp only [List.mapM_cons, Sem.run_bind, run_size hn, Result.andThen_ok, Sem.run_pure, h1]
      · cases i with
        | zero => simp [hn]
        | succ i => simpa using h2 i
  obtain ⟨ps, h1, h2⟩ := key fs.toList h
  refine ⟨ps.toArray, fun w => ?_, fun i => ?_⟩
  · rw [Array.mapM_eq_mapM_toList]
    have := h1 w
    simp only [Sem.run_map, this, Result.andThen_ok]
  · rw [List.getElem?_toArray, h2]
    unfold plc
    simp only [Array.getElem?_toList]
    cases fs[i]? with
    | none => rfl
    | some f => simp only [Option.bind_some]; cases szT P f.type <;> rfl

theorem build_struct_run {t : TypeId} {fs : Array Field} {z l : List Value} {parts : Array (Nat × Operand)} {qs : List (Nat × Nat × Value)} (hρ : ∀ x v, ρ x = some v → ρc x = v)
    (hd : P.underlying t = some (.struct fs)) (hf : fieldsOk P fs = true) (hz : zeT P t = some z) (hp : pts (plc P fs) ρ parts.toList = some qs) (hb : bldL z qs = some l) :
    (Instr.build t (parts.map fun (i, x) => (i, ρc x))).run P w = .ok (.agg l.toArray) w := by
  obtain ⟨zv, hzr, rfl⟩ := run_zero hz w
  obtain ⟨ps, hps, hpl⟩ := places_run (P := P) (fs := fs) (fun f hm => (List.all_eq_true.1 hf) f hm)
  have hfill : Instr.fill (ps[·]?) zv.cells (parts.map fun (i, x) => (i, ρc x)).toList = some l.toArray := by
    have := fill_run (place := (ps[·]?)) parts.toList qs zv.cells.toList l hρ (by rw [show (fun x => ps[x]?) = plc P fs from funext hpl]; exact hp) hb
    simpa using this
  unfold Instr.build
  simp only [Sem.run_bind, hzr, Result.andThen_ok, run_underlying hd, hps, hfill, Sem.run_pure]

theorem build_array_run {t e : TypeId} {k n : Nat} {z l : List Value} {parts : Array (Nat × Operand)} {qs : List (Nat × Nat × Value)} (hρ : ∀ x v, ρ x = some v → ρc x = v)
    (hd : P.underlying t = some (.array k e)) (hn : szT P e = some n) (hz : zeT P t = some z) (hp : pts (fun i => some (i * n, n)) ρ parts.toList = some qs) (hb : bldL z qs = some l) :
    (Instr.build t (parts.map fun (i, x) => (i, ρc x))).run P w = .ok (.agg l.toArray) w := by
  obtain ⟨zv, hzr, rfl⟩ := run_zero hz w
  have hfill : Instr.fill (fun i => some (i * n, n)) zv.cells (parts.map fun (i, x) => (i, ρc x)).toList = some l.toArray := by
    have := fill_run (place := fun i => some (i * n, n)) parts.toList qs zv.cells.toList l hρ hp hb
    simpa using this
  unfold Instr.build
  simp only [Sem.run_bind, hzr, Result.andThen_ok, run_underlying hd, run_size hn, hfill, Sem.run_pure]

theorem resolve_builtin (c : Call) (b : Builtin) (ty : TypeId) (hc : c.callee = .builtin b) (w : World) :
    ∃ cs, (resolve ρc c ty).run P w = .ok { target := .builtin b c.argTypes ty cs, args := c.args.map ρc } w := by
  refine ⟨c.args.map fun | .const _ => true | _ => false, ?_⟩
  unfold resolve
  simp only [hc, Sem.run_pure]
  rfl

theorem builtR_run {b : Builtin} {ts : Array TypeId} {vs : List Value} {v : Value} {ty : TypeId} {cs : Array Bool} (s : Sat w H) (h : builtR P b ts.toList vs H = some v) : (builtin b ts ty cs vs.toArray).run P w = .ok (.value v) w := by
  unfold builtR at h
  split at h
  · rename_i t r x hts
    have h0 : ts[0]? = some t := by rw [← Array.getElem?_toList, hts]; rfl
    split at h
    case h_1 hd =>
      unfold lenS at h
      split at h
      · cases h
        refine run_val ?_
        simp only [Builtin.len_, h0, List.getElem?_toArray, List.getElem?_cons_zero, Sem.run_bind, run_underlying hd, Result.andThen_ok, Sem.run_pure, goInt]
      · cases h
    case h_2 hd =>
      unfold lenT at h
      split at h
      · cases h
        refine run_val ?_
        simp only [Builtin.len_, h0, List.getElem?_toArray, List.getElem?_cons_zero, Sem.run_bind, run_underlying hd, Result.andThen_ok, Sem.run_pure, goInt]
      · cases h
    case h_3 hd =>
      cases h
      refine run_val ?_
      simp only [Builtin.len_, h0, List.getElem?_toArray, List.getElem?_cons_zero, Sem.run_bind, run_underlying hd, Result.andThen_ok, Sem.run_pure, goInt]
    case h_4 hd =>
      refine run_val ?_
      unfold lenM at h
      split at h
      · cases h
        simp only [Builtin.len_, h0, List.getElem?_toArray, List.getElem?_cons_zero, Sem.run_bind, run_underlying hd, Result.andThen_ok, Sem.run_pure, goInt]
      · rename_i m
        split at h
        · rename_i es cl hm
          cases h
          have := s _ _ hm
          simp only [Blk.obj] at this
          have hg : (getObj m).run P w = .ok (.map es cl) w := by simp only [getObj, Sem.run, this]
          simp only [Builtin.len_, h0, List.getElem?_toArray, List.getElem?_cons_zero, Sem.run_bind, run_underlying hd, Result.andThen_ok, hg, Sem.run_pure, goInt]
        · cases h
      · cases h
    case h_5 => cases h
  · rename_i t r x hts
    have h0 : ts[0]? = some t := by rw [← Array.getElem?_toList, hts]; rfl
    split at h
    case h_1 hd =>
      unfold capV at h
      split at h
      · cases h
        refine run_val ?_
        simp only [Builtin.cap_, h0, List.getElem?_toArray, List.getElem?_cons_zero, Sem.run_bind, run_underlying hd, Result.andThen_ok, Sem.run_pure, goInt]
      · cases h
    case h_2 => cases h
  · rename_i x y
    refine run_val ?_
    unfold minV at h
    simp only [Builtin.min_, List.foldlM_cons, List.foldlM_nil, Sem.run_bind]
    split at h
    · cases h; rfl
    · simp only [pvS_run h P w, Result.andThen_ok, Sem.run_pure]
    · cases h
  · rename_i x y
    refine run_val ?_
    unfold maxV at h
    simp only [Builtin.max_, List.foldlM_cons, List.foldlM_nil, Sem.run_bind]
    split at h
    · cases h; rfl
    · simp only [pvS_run h P w, Result.andThen_ok, Sem.run_pure]
    · cases h
  · refine run_val ?_
    unfold realV at h
    split at h
    · cases h; rfl
    · cases h
  · refine run_val ?_
    unfold imagV at h
    split at h
    · cases h; rfl
    · cases h
  · refine run_val ?_
    unfold cplxV at h
    split at h
    · split at h
      · rename_i hk; subst hk; cases h; show (if _ then _ else _ : Sem Value).run P w = _; rw [if_pos rfl]; rfl
      · cases h
    · cases h
  · cases h

theorem pick_run {c x y v : Value} (h : pickV c x y = some v) : (do pure (Next.value (if ← asBool c then x else y)) : Sem Next).run P w = .ok (.value v) w := by
  unfold pickV at h
  split at h
  · rename_i cb
    simp only [Option.some.injEq] at h
    subst h
    cases cb <;> rfl
  · cases h

theorem opR_run (hE : EOk P E) (s : Sat w H) (hρ : ∀ x v, ρ x = some v → ρc x = v) {o : Oper} {v : Value} (h : opR P E ρ H o.op = some v) : (execOp ρc o).run P w = .ok (.value v) w := by
  unfold execOp
  cases ho : o.op with
  | move x => rw [ho] at h; dsimp only [opR] at h ⊢; rw [hρ x v h]; rfl
  | assign x => rw [ho] at h; dsimp only [opR] at h ⊢; rw [hρ x v h]; rfl
  | pick c a b =>
    rw [ho] at h; dsimp only [opR] at h ⊢
    obtain ⟨cv, hc, h⟩ := ob_some h
    obtain ⟨av, ha, h⟩ := ob_some h
    obtain ⟨bv, hb, h⟩ := ob_some h
    rw [hρ c _ hc, hρ a _ ha, hρ b _ hb]
    exact pick_run (v := v) h
  | load t a =>
    rw [ho] at h; dsimp only [opR] at h ⊢
    obtain ⟨av, ha, h⟩ := ob_some h
    refine run_val ?_
    rw [hρ a _ ha]
    split at h
    · rename_i d hd; exact load_run hd s h
    · cases h
  | nilCheck x =>
    rw [ho] at h; dsimp only [opR] at h ⊢
    obtain ⟨xv, hx, h⟩ := ob_some h
    simp only [hρ x _ hx]
    unfold nilV at h
    split at h <;> cases h <;> rfl
  | binOp op t x y yt =>
    rw [ho] at h; dsimp only [opR] at h ⊢
    obtain ⟨xv, hx, h⟩ := ob_some h
    obtain ⟨yv, hy, h⟩ := ob_some h
    refine run_val ?_
    rw [hρ x _ hx, hρ y _ hy]
    exact binR_run hE x y h
  | unOp op t x =>
    rw [ho] at h; dsimp only [opR] at h ⊢
    obtain ⟨xv, hx, h⟩ := ob_some h
    refine run_val ?_
    rw [hρ x _ hx]
    exact unV_run h
  | convert sr d x =>
    rw [ho] at h; dsimp only [opR] at h ⊢
    obtain ⟨xv, hx, h⟩ := ob_some h
    refine run_val ?_
    rw [hρ x _ hx]
    unfold convert
    split at h
    · rename_i k1 k2 h1 h2
      unfold convV at h
      split at h
      · cases h
        simp only [Sem.run_bind, run_underlying h1, run_underlying h2, Result.andThen_ok, Conv.intToInt, Sem.run_pure]
      · cases h
    · rename_i k1 k2 h1 h2
      unfold convF at h
      split at h
      · cases h
        simp only [Sem.run_bind, run_underlying h1, run_underlying h2, Result.andThen_ok, Conv.intToFloat, Sem.run_pure]
      · cases h
    · cases h
  | makeFunc fn first cap =>
    rw [ho] at h; dsimp only [opR] at h ⊢
    obtain ⟨a, ha, h⟩ := ob_some h
    obtain ⟨b, hb, h⟩ := ob_some h
    refine run_val ?_
    cases h
    have e1 : first.map ρc = a.toArray := by rw [← os_some hρ ha, ← Array.toList_map, Array.toArray_toList]
    have e2 : cap.map ρc = b.toArray := by rw [← os_some hρ hb, ← Array.toList_map, Array.toArray_toList]
    simp only [Instr.makeFunc, Sem.run_pure, e1, e2]
  | slice t x lo hi mx =>
    rw [ho] at h; dsimp only [opR] at h ⊢
    obtain ⟨xv, hx, h⟩ := ob_some h
    obtain ⟨l, hl, h⟩ := ob_some h
    obtain ⟨hh, hhi, h⟩ := ob_some h
    obtain ⟨m, hm, h⟩ := ob_some h
    refine run_val ?_
    simp only [hρ x _ hx, oo_some hρ hl, oo_some hρ hhi, oo_some hρ hm]
    unfold Instr.sliceAt
    split at h
    · rename_i e hd
      obtain ⟨n, hn, h⟩ := ob_some h
      unfold slV at h
      split at h
      · split at h
        · rename_i r1 r2 r3 hb
          cases h
          simp only [Sem.run_bind, run_underlying hd, Result.andThen_ok, Instr.slice, bnds_run true hb, run_size hn, Sem.run_pure]
        · cases h
      · cases h
    · rename_i len e hd
      obtain ⟨n, hn, h⟩ := ob_some h
      unfold slP at h
      split at h
      · split at h
        · rename_i r1 r2 r3 hb
          cases h
          simp only [Sem.run_bind, run_underlying hd, Result.andThen_ok, Instr.sureAddr, bnds_run false hb, run_size hn, Sem.run_pure]
        · cases h
      · cases h
    · rename_i hd
      split at h
      · unfold slT at h
        split at h
        · split at h
          · rename_i r1 r2 r3 hb
            cases h
            simp only [Sem.run_bind, run_underlying hd, Result.andThen_ok, Instr.slice, bnds_run false hb, Option.isSome, Bool.false_eq_true, if_false, Sem.run_pure]
          · cases h
        · cases h
      · cases h
    · cases h
  | fieldAddr t x f =>
    rw [ho] at h; dsimp only [opR] at h ⊢
    obtain ⟨xv, hx, h⟩ := ob_some h
    refine run_val ?_
    simp only [hρ x _ hx]
    split at h
    · rename_i fs hd
      split at h
      · rename_i fd hf
        obtain ⟨n, hn, h⟩ := ob_some h
        split at h
        · cases h
        · rename_i hn0
          unfold fldA at h
          split at h
          · cases h
            simp only [Instr.fieldAt, Sem.run_bind, run_underlying hd, Result.andThen_ok, hf, Instr.sureAddr, Sem.run_pure, fieldPlace, run_size hn, if_neg hn0]
          · cases h
      · cases h
    · cases h
  | field t x f =>
    rw [ho] at h; dsimp only [opR] at h ⊢
    obtain ⟨xv, hx, h⟩ := ob_some h
    refine run_val ?_
    simp only [hρ x _ hx]
    split at h
    · rename_i fs hd
      split at h
      · rename_i fd hf
        obtain ⟨n, hn, h⟩ := ob_some h
        split at h
        · rename_i d hfd
          cases xv <;> (first | (simp [prtV] at h; done) | skip)
          rename_i cs
          simp only [Instr.field, Sem.run_bind, run_underlying hd, Result.andThen_ok, hf, asAgg, Sem.run_pure]
          exact part_run hfd hn h
        · cases h
      · cases h
    · cases h
  | indexAddr t x i =>
    rw [ho] at h; dsimp only [opR] at h ⊢
    obtain ⟨xv, hx, h⟩ := ob_some h
    obtain ⟨iv, hi, h⟩ := ob_some h
    refine run_val ?_
    simp only [hρ x _ hx, hρ i _ hi]
    split at h
    · rename_i e hd
      obtain ⟨n, hn, h⟩ := ob_some h
      unfold ixS at h
      split at h
      · split at h
        · rename_i hb
          cases h
          simp only [Instr.indexAt, asIntOf, Sem.run_bind, Sem.run_pure, Result.andThen_ok, run_underlying hd, if_pos hb, run_size hn]
        · cases h
      · cases h
    · rename_i len e hd
      obtain ⟨n, hn, h⟩ := ob_some h
      unfold ixP at h
      split at h
      · split at h
        · rename_i hb
          cases h
          simp only [Instr.indexAt, asIntOf, Sem.run_bind, Sem.run_pure, Result.andThen_ok, run_underlying hd, Instr.sureAddr, if_pos hb, run_size hn]
        · cases h
      · cases h
    · cases h
  | index t x i =>
    rw [ho] at h; dsimp only [opR] at h ⊢
    obtain ⟨xv, hx, h⟩ := ob_some h
    obtain ⟨iv, hi, h⟩ := ob_some h
    refine run_val ?_
    simp only [hρ x _ hx, hρ i _ hi]
    split at h
    · rename_i len e hd
      obtain ⟨n, hn, h⟩ := ob_some h
      split at h
      · rename_i d he
        unfold ixA at h
        split at h
        · split at h
          · rename_i hb
            simp only [Instr.index, asIntOf, Sem.run_bind, Sem.run_pure, Result.andThen_ok, run_underlying hd, if_pos hb, run_size hn]
            exact part_run he hn h
          · cases h
        · cases h
      · cases h
    · rename_i hd
      unfold ixT at h
      split at h
      · rename_i sx k j
        split at h
        · rename_i h0
          split at h
          · rename_i b hb
            cases h
            simp only [Instr.index, asIntOf, Sem.run_bind, Sem.run_pure, Result.andThen_ok, run_underlying hd, if_pos h0, hb]
          · cases h
        · cases h
      · cases h
    · cases h
  | extract x i =>
    rw [ho] at h; dsimp only [opR] at h ⊢
    obtain ⟨xv, hx, h⟩ := ob_some h
    refine run_val ?_
    simp only [hρ x _ hx]
    unfold extrV at h
    split at h
    · simp only [Instr.extract, h, Sem.run_pure]
    · cases h
  | build t parts =>
    rw [ho] at h; dsimp only [opR] at h ⊢
    obtain ⟨z, hz, h⟩ := ob_some h
    refine run_val ?_
    split at h
    · rename_i fs hd
      split at h
      · rename_i hf
        obtain ⟨ps, hp, h⟩ := ob_some h
        obtain ⟨l, hl, h⟩ := ob_some h
        cases h
        exact build_struct_run hρ hd hf hz hp hl
      · cases h
    · rename_i k e hd
      obtain ⟨n, hn, h⟩ := ob_some h
      obtain ⟨ps, hp, h⟩ := ob_some h
      obtain ⟨l, hl, h⟩ := ob_some h
      cases h
      exact build_array_run hρ hd hn hz hp hl
    · cases h
  | call c =>
    rw [ho] at h
    obtain ⟨callee, args, ts⟩ := c
    cases callee with
    | builtin b =>
      simp only [opR] at h
      obtain ⟨vs, hv, h⟩ := ob_some h
      obtain ⟨cs, hr⟩ := resolve_builtin (P := P) (ρc := ρc) ⟨.builtin b, args, ts⟩ b o.type rfl w
      simp only [Sem.run_bind, hr, Result.andThen_ok, invoke]
      have e1 := os_some hρ hv
      have : args.map ρc = vs.toArray := by rw [← e1, ← Array.toList_map, Array.toArray_toList]
      rw [this]
      exact builtR_run s h
    | value f => simp [opR] at h
    | invoke r m => simp [opR] at h
  | _ => rw [ho] at h; simp [opR] at h

end
end Go.Sl
namespace Go.Sl
open Go

/-- What must hold of an operation's outcome. -/
def ResOk (P : Program) (F : Heap) (K : Value → Heap → Prop) : Result Next → Prop
  | .ok (.value v) w' => ∃ H', Sat w' H' ∧ Sat w' F ∧ Dis H' F ∧ K v H'
  | .ok .skip w' => ∃ H', Sat w' H' ∧ Sat w' F ∧ Dis H' F ∧ K undef H'
  | .ok (.enter f args) w' => CallsIn Fence.wide 0 P f args w' (Fin F K)
  | .ok (.round l f tmps asg body) w' => RoundIn Fence.wide 0 P l f tmps asg body w' (Fin F K)
  | _ => False

def OpOk (P : Program) (ρ : Operand → Value) (o : Oper) (H : Heap) (K : Value → Heap → Prop) : Prop :=
  ∀ w F, Sat w H → Sat w F → Dis H F → ResOk P F K ((execOp ρ o).run P w)

/-- Something that the machine does by itself, in one step. -/
def semW {β : Type} (P : Program) (s : Sem β) (H : Heap) (K : β → Heap → Prop) : Prop :=
  ∀ w F, Sat w H → Sat w F → Dis H F → ∃ v w' H', s.run P w = .ok v w' ∧ Sat w' H' ∧ Sat w' F ∧ Dis H' F ∧ K v H'

/-- A new block. -/
def alW (e : TypeId) (zs : List Value) (H : Heap) (K : Value → Heap → Prop) : Prop := ∀ b, H b = none → K (.pointer (some ⟨b, 0, none⟩)) (upd H b (.cs zs e))
/-- A new row for a slice. -/
def nsW (e : TypeId) (len cap : Nat) (zs : List Value) (H : Heap) (K : Value → Heap → Prop) : Prop := ∀ b, H b = none → K (.slice (some ⟨b, 0, none⟩) len cap) (upd H b (.cs zs e))
def zRow (n : Nat) (z : List Value) : List Value := (List.replicate n z).flatten
def mkW (e : TypeId) (bytes : Nat) (z : List Value) (l c : Value) (H : Heap) (K : Value → Heap → Prop) : Prop := match l, c with
  | .int _ l, .int _ c => (0 ≤ l ∧ l ≤ c ∧ c < 4611686018427387904 ∧ bytes * c ≤ 281474976710656) ∧ nsW e l.toNat c.toNat (zRow c.toNat z) H K
  | _, _ => False
def mmW (H : Heap) (K : Value → Heap → Prop) : Prop := ∀ b, H b = none → K (.map (some b)) (upd H b (.ob (.map #[] 0)))

def appW (P : Program) (t xt : TypeId) (s x : Value) (H : Heap) (K : Value → Heap → Prop) : Prop := semW P (Builtin.append_ #[t, xt] 0 #[s, x]) H K
def cpyW (P : Program) (t xt : TypeId) (s x : Value) (H : Heap) (K : Value → Heap → Prop) : Prop := semW P (Builtin.copy_ #[t, xt] 0 #[s, x]) H K
def clrW (P : Program) (t : TypeId) (x : Value) (H : Heap) (K : Value → Heap → Prop) : Prop := semW P (Builtin.clear_ #[t] 0 #[x]) H K
def delW (P : Program) (t kt : TypeId) (m k : Value) (H : Heap) (K : Value → Heap → Prop) : Prop := semW P (Builtin.delete_ #[t, kt] 0 #[m, k]) H K
def lkW (P : Program) (t : TypeId) (x i : Value) (ok : Bool) (H : Heap) (K : Value → Heap → Prop) : Prop := semW P (Instr.lookup t x i ok) H K
def muW (P : Program) (t : TypeId) (m k x : Value) (H : Heap) (K : Value → Heap → Prop) : Prop := semW P (Instr.mapUpdate t m k x) H (fun _ H' => K undef H')
def rgW (P : Program) (t : TypeId) (x : Value) (H : Heap) (K : Value → Heap → Prop) : Prop := semW P (Instr.range t x) H K
def nxW (P : Program) (x : Value) (s : Bool) (H : Heap) (K : Value → Heap → Prop) : Prop := semW P (Instr.next x s 0) H K

/-- A round of a range over a function: what a call of its 'yield' does. -/
def Yd (P : Program) (l : Nat) (args : List Value) (H : Heap) (K : Value → Heap → Prop) : Prop :=
  ∀ w F, Sat w H → Sat w F → Dis H F → ∃ f tmps asg body, (Instr.yield l args.toArray).run P w = .ok (.round l f tmps asg body) w ∧ RoundIn Fence.wide 0 P l f tmps asg body w (Fin F K)

def clW (P : Program) (f : Value) (args : List Value) (H : Heap) (K : Value → Heap → Prop) : Prop := match f with
  | .func (.func k) first cap => T P k (first.toList ++ args ++ cap.toList) H K
  | .func (.yield l) first _ => Yd P l (first.toList ++ args) H K
  | _ => False

def bytT (P : Program) (t : TypeId) : Option Nat := match P.info? t with | some i => some i.bytes | none => none

def callW (P : Program) (ρ : Operand → Option Value) (H : Heap) (callee : Callee) (args : List Operand) (ts : List TypeId) (K : Value → Heap → Prop) : Prop :=
  match callee with
  | .value f => ev (ρ f) fun f => ev (os ρ args) fun vs => clW P f vs H K
  | .invoke _ _ => False
  | .builtin b => ev (os ρ args) fun vs => match b, ts, vs with
    | .append, [t, xt], [s, x] => appW P t xt s x H K
    | .copy, [t, xt], [s, x] => cpyW P t xt s x H K
    | .clear, [t], [x] => clrW P t x H K
    | .delete, [t, kt], [m, k] => delW P t kt m k H K
    | b, ts, vs => ev (builtR P b ts vs H) fun v => K v H

def opW (P : Program) (E : List TypeId) (ρ : Operand → Option Value) (H : Heap) (op : Op) (K : Value → Heap → Prop) : Prop :=
  match op with
  | .store t a v => ev (ρ a) fun a => ev (ρ v) fun v => ev (szT P t) fun n => ev (sto n H a v) fun H' => K undef H'
  | .alloc e => ev (zeT P e) fun z => alW e z H K
  | .box e x => ev (ρ x) fun v => alW e v.cells.toList H K
  | .buildSlice t len parts => match P.underlying t with
    | some (.slice e) => ev (szT P e) fun n => ev (zeT P e) fun z => ev (pts (fun i => some (i * n, n)) ρ parts.toList) fun ps =>
        if len * n ≤ 16777216 ∧ z.length = n then ev (bldL (zRow len z) ps) fun l => nsW e len len l H K else False
    | _ => False
  | .makeSlice t l c => match P.underlying t with
    | some (.slice e) => ev (szT P e) fun n => ev (bytT P e) fun by_ => ev (zeT P e) fun z => ev (ρ l) fun l => ev (ρ c) fun c => if z.length = n then mkW e by_ z l c H K else False
    | _ => False
  | .makeMap _ none => mmW H K
  | .lookup t x i ok => ev (ρ x) fun x => ev (ρ i) fun i => lkW P t x i ok H K
  | .mapUpdate t m k x => ev (ρ m) fun m => ev (ρ k) fun k => ev (ρ x) fun x => muW P t m k x H K
  | .insert t m k x => ev (ρ m) fun m => ev (ρ k) fun k => ev (ρ x) fun x => muW P t m k x H K
  | .range t x => ev (ρ x) fun x => rgW P t x H K
  | .next x s => ev (ρ x) fun x => nxW P x s H K
  | .call c => callW P ρ H c.callee c.args.toList c.argTypes.toList K
  | op => ev (opR P E ρ H op) fun v => K v H

section
variable {P : Program} {E : List TypeId} {H : Heap} {ρ : Operand → Option Value} {ρc : Operand → Value} {K : Value → Heap → Prop}

theorem sat_push {w : World} {H : Heap} (s : Sat w H) (o : Obj) : Sat { w with heap := w.heap.push o } H := fun b k hb => by
  have := (s b k hb).1
  refine ⟨?_, (s b k hb).2⟩
  rw [Array.getElem?_push]
  split
  · rename_i h0; subst h0; simp at this
  · exact this
theorem sat_push_upd {w : World} {H : Heap} (s : Sat w H) (k : Blk) (hk : ∀ w, k.on w := by first | exact fun _ => on_cs | exact fun _ => on_ob) : Sat { w with heap := w.heap.push k.obj } (upd H w.heap.size k) := fun b x hb => by
  unfold upd at hb
  split at hb
  · rename_i h0; subst h0; cases hb; exact ⟨by simp, hk _⟩
  · exact sat_push s _ b x hb
theorem dis_upd {H F : Heap} {b : Nat} {k : Blk} (d : Dis H F) (h : F b = none) : Dis (upd H b k) F := fun c => by
  unfold upd
  split
  · rename_i h0; subst h0; exact .inr h
  · exact d c

theorem zRow_range (n : Nat) (z : Array Value) (_hz : 0 < z.size) : ((Array.range (n * z.size)).map (z[· % z.size]!)) = (zRow n z.toList).toArray := by
  apply Array.toList_inj.1
  rw [Array.toList_map, Array.toList_range]
  show _ = zRow n z.toList
  induction n with
  | zero => simp [zRow]
  | succ n ih =>
    have e1 : zRow (n + 1) z.toList = zRow n z.toList ++ z.toList := by
      simp [zRow, List.replicate_succ']
    rw [e1, ← ih, Nat.succ_mul, List.range_add, List.map_append, List.map_map]
    congr 1
    apply List.ext_getElem (by simp)
    intro i h1 h2
    simp at h1 h2
    simp [Nat.mod_eq_of_lt h1, getElem!_pos z i h1]

theorem new_ok {w : World} {F : Heap} (s : Sat w H) (f : Sat w F) (d : Dis H F) (k : Blk) (b : Nat) (hb : b = w.heap.size) (hk : ∀ w, k.on w := by first | exact fun _ => on_cs | exact fun _ => on_ob) :
    Sat { w with heap := w.heap.push k.obj } (upd H b k) ∧ Sat { w with heap := w.heap.push k.obj } F ∧ Dis (upd H b k) F := by
  subst hb
  exact ⟨sat_push_upd s k hk, sat_push f _, dis_upd d f.fresh⟩

theorem flat_mem {vs : List Value} (h : flat vs = true) : ∀ v ∈ vs, v.oneCell' = true := fun v hv => (List.all_eq_true.1 h) v hv

theorem setRow_sat {w : World} {H : Heap} {b : Nat} {c c' : List Value} {e : TypeId} (s : Sat w H) (hb : H b = some (.cs c e)) :
    Sat (w.setRow b c'.toArray) (upd H b (.cs c' e)) := fun x k hx => by
  unfold upd at hx
  split at hx
  · rename_i h0; subst h0; cases hx
    exact ⟨setRow_heap w x c.toArray _ e (0, 0) (s x _ hb).1, on_cs⟩
  · rename_i h0
    rw [setRow_other w b x _ h0]; exact ⟨(s x k hx).1, (s x k hx).2⟩
theorem setRow_frame {w : World} {F : Heap} {b : Nat} {c' : Array Value} (s : Sat w F) (hb : F b = none) : Sat (w.setRow b c') F := fun x k hx => by
  have h0 : x ≠ b := fun e => by subst e; rw [hb] at hx; cases hx
  rw [setRow_other w b x _ h0]; exact ⟨(s x k hx).1, (s x k hx).2⟩

theorem sto_run {w : World} {F H' : Heap} {t : TypeId} {n : Nat} {p v : Value} (s : Sat w H) (f : Sat w F) (d : Dis H F) (hn : szT P t = some n) (h : sto n H p v = some H') :
    ∃ w', (Instr.storeAt t p v).run P w = .ok () w' ∧ Sat w' H' ∧ Sat w' F ∧ Dis H' F := by
  unfold sto at h
  split at h
  · rename_i b off
    split at h
    · rename_i c e hb
      split at h
      · rename_i hc
        obtain ⟨h1, h2, h3⟩ := hc
        cases h
        have hF : F b = none := (d b).resolve_left (by rw [hb]; simp)
        have hl : off + v.cells.size ≤ c.length := by omega
        have hr := run_storeCells_at (P := P) b off e v.cells.toList 0 c.toArray w (s b _ hb).1 (by simpa using hl) (flat_mem h3)
        refine ⟨_, ?_, setRow_sat (c' := over c off v.cells.toList) s hb, setRow_frame f hF, dis_upd d hF⟩
        simp only [Instr.storeAt, Instr.sureAddr, Sem.run_bind, Sem.run_pure, Result.andThen_ok, storeVar, run_size hn, h1, ne_eq, not_true, if_false]
        simpa [over] using hr
      · cases h
    · cases h
  · cases h

theorem semW_val {s : Sem Value} (h : semW P s H K) {w : World} {F : Heap} (hs : Sat w H) (hf : Sat w F) (hd : Dis H F) : ResOk P F K ((do pure (Next.value (← s)) : Sem Next).run P w) := by
  obtain ⟨v, w', H', hr, a, b, c, k⟩ := h w F hs hf hd
  rw [run_val hr]
  exact ⟨H', a, b, c, k⟩

theorem run_unit {s : Sem Unit} {w w' : World} (h : s.run P w = .ok () w') : (do s; pure Next.skip : Sem Next).run P w = .ok .skip w' := by
  simp only [Sem.run_bind, h, Result.andThen_ok, Sem.run_pure]

theorem clW_ok {f : Value} {args : List Value} (h : clW P f args H K) {w : World} {F : Heap} (hs : Sat w H) (hf : Sat w F) (hd : Dis H F) (c : Call) (ty : TypeId) (x : Operand) (hc : c.callee = .value x) (hx : ρc x = f) (ha : c.args.map ρc = args.toArray) :
    ResOk P F K ((do let d ← resolve ρc c ty; invoke d.target d.args : Sem Next).run P w) := by
  unfold clW at h
  have hres : ∀ fn first cap, f = .func fn first cap → (resolve ρc c ty).run P w = .ok { target := .fn fn cap, args := first ++ args.toArray } w := by
    intro fn first cap e
    unfold resolve
    simp only [hc, hx, e, ha, Deferred.ofValue, Sem.run_pure]
  split at h
  · rename_i k first cap
    simp only [Sem.run_bind, hres _ _ _ rfl, Result.andThen_ok, invoke]
    have e1 : (first ++ args.toArray) ++ cap = (first.toList ++ args ++ cap.toList).toArray := by
      apply Array.toList_inj.1; simp
    rcases h with h | h
    · rw [h.1]
      have q := h.2 w F hs hf hd
      rw [← e1] at q
      exact q
    · obtain ⟨v, w', H', hr, q⟩ := h w F hs hf hd
      rw [← e1] at hr
      rw [hr]
      exact ⟨H', q⟩
  · rename_i l first cap
    simp only [Sem.run_bind, hres _ _ _ rfl, Result.andThen_ok, invoke]
    have e1 : first ++ args.toArray = (first.toList ++ args).toArray := by apply Array.toList_inj.1; simp
    rw [e1]
    obtain ⟨f', tmps, asg, body, hy, hr⟩ := h w F hs hf hd
    rw [hy]
    exact hr
  · exact h.elim

theorem append_ty (ts : Array TypeId) (ty : TypeId) (vs : Array Value) : Builtin.append_ ts ty vs = Builtin.append_ ts 0 vs := rfl

theorem callW_ok {w : World} {F : Heap} (hρ : ∀ x v, ρ x = some v → ρc x = v) (c : Call) (ty : TypeId) (h : callW P ρ H c.callee c.args.toList c.argTypes.toList K) (hs : Sat w H) (hf : Sat w F) (hd : Dis H F) :
    ResOk P F K ((do let d ← resolve ρc c ty; invoke d.target d.args : Sem Next).run P w) := by
  have args_eq : ∀ vs, os ρ c.args.toList = some vs → c.args.map ρc = vs.toArray := fun vs h2 => by
    rw [← os_some hρ h2, ← Array.toList_map, Array.toArray_toList]
  unfold callW at h
  split at h
  · rename_i f hc
    obtain ⟨fv, hfv, h⟩ := ev_iff.1 h
    obtain ⟨vs, hvs, h⟩ := ev_iff.1 h
    exact clW_ok h hs hf hd c ty f hc (hρ f fv hfv) (args_eq vs hvs)
  · exact h.elim
  · rename_i b hc
    obtain ⟨vs, hvs, h⟩ := ev_iff.1 h
    obtain ⟨cs, hr⟩ := resolve_builtin (P := P) (ρc := ρc) c b ty hc w
    simp only [Sem.run_bind, hr, Result.andThen_ok, invoke, args_eq vs hvs]
    have hts : c.argTypes = c.argTypes.toList.toArray := by simp
    generalize hl : c.argTypes.toList = tl at h hts
    rw [hts]
    split at h
    · exact semW_val h hs hf hd
    · exact semW_val h hs hf hd
    · exact semW_val h hs hf hd
    · exact semW_val h hs hf hd
    · obtain ⟨v, hv, h⟩ := ev_iff.1 h
      rw [builtR_run hs hv]
      exact ⟨H, hs, hf, hd, h⟩

theorem newRow_run (e : TypeId) (zs : List Value) (w : World) : (newRow e zs.toArray).run P w = .ok ⟨w.heap.size, 0, none⟩ { w with heap := w.heap.push (Blk.cs zs e).obj } := by
  simp only [newRow, Sem.run_bind, run_newObj, Result.andThen_ok, Sem.run_pure]; rfl

theorem nsW_ok {e : TypeId} {len cap : Nat} {zs : List Value} (h : nsW e len cap zs H K) {w : World} {F : Heap} (hs : Sat w H) (hf : Sat w F) (hd : Dis H F) :
    ResOk P F K (.ok (.value (.slice (some ⟨w.heap.size, 0, none⟩) len cap)) { w with heap := w.heap.push (Blk.cs zs e).obj }) := by
  obtain ⟨a, b, c⟩ := new_ok hs hf hd (.cs zs e) _ rfl
  exact ⟨_, a, b, c, h _ hs.fresh⟩

theorem alW_ok {e : TypeId} {zs : List Value} (h : alW e zs H K) {w : World} {F : Heap} (hs : Sat w H) (hf : Sat w F) (hd : Dis H F) :
    ResOk P F K (.ok (.value (.pointer (some ⟨w.heap.size, 0, none⟩))) { w with heap := w.heap.push (Blk.cs zs e).obj }) := by
  obtain ⟨a, b, c⟩ := new_ok hs hf hd (.cs zs e) _ rfl
  exact ⟨_, a, b, c, h _ hs.fresh⟩

theorem wrap_id {n : Int} (h1 : 0 ≤ n) (h2 : n < 4611686018427387904) : IntKind.i64.wrap n = n := IntWalk.i64_in _ (by omega)

theorem zero_len {t : TypeId} {z : List Value} {v : Value} {w : World} (_h : (zeroValue t).run P w = .ok v w) (h2 : v.cells.toList = z) : v.cells.size = z.length := by rw [← h2]; simp

theorem opW_ok (hE : EOk P E) (hρ : ∀ x v, ρ x = some v → ρc x = v) (o : Oper) (h : opW P E ρ H o.op K) : OpOk P ρc o H K := by
  intro w F hs hf hd
  have dflt : ∀ (hh : ev (opR P E ρ H o.op) fun v => K v H), ResOk P F K ((execOp ρc o).run P w) := by
    intro hh
    obtain ⟨v, hv, hk⟩ := ev_iff.1 hh
    rw [opR_run hE hs hρ hv]
    exact ⟨H, hs, hf, hd, hk⟩
  cases ho : o.op
  case store t a v =>
    rw [ho] at h; dsimp only [opW] at h
    obtain ⟨av, ha, h⟩ := ev_iff.1 h
    obtain ⟨vv, hv, h⟩ := ev_iff.1 h
    obtain ⟨n, hn, h⟩ := ev_iff.1 h
    obtain ⟨H', hH, h⟩ := ev_iff.1 h
    unfold execOp
    rw [ho]; dsimp only
    rw [hρ a _ ha, hρ v _ hv]
    obtain ⟨w', hr, a1, a2, a3⟩ := sto_run hs hf hd hn hH
    rw [run_unit hr]
    exact ⟨H', a1, a2, a3, h⟩
  case alloc e =>
    rw [ho] at h; dsimp only [opW] at h
    obtain ⟨z, hz, h⟩ := ev_iff.1 h
    unfold execOp
    rw [ho]; dsimp only
    obtain ⟨zv, hzr, hzz⟩ := run_zero hz w
    have e1 : (Instr.alloc e true (.tuple #[])).run P w = .ok (.pointer (some ⟨w.heap.size, 0, none⟩)) { w with heap := w.heap.push (Blk.cs z e).obj } := by
      have : zv.cells = z.toArray := by rw [← hzz]
      simp only [Instr.alloc, Sem.run_bind, hzr, Result.andThen_ok, newVar, this, newRow_run, Sem.run_pure]
    rw [run_val e1]
    exact alW_ok h hs hf hd
  case box e x =>
    rw [ho] at h; dsimp only [opW] at h
    obtain ⟨v, hv, h⟩ := ev_iff.1 h
    unfold execOp
    rw [ho]; dsimp only
    rw [hρ x _ hv]
    have e1 : (Instr.box e v).run P w = .ok (.pointer (some ⟨w.heap.size, 0, none⟩)) { w with heap := w.heap.push (Blk.cs v.cells.toList e).obj } := by
      have : v.cells = v.cells.toList.toArray := by simp
      rw [Instr.box, newVar, this]
      simp only [Sem.run_bind, newRow_run, Result.andThen_ok, Sem.run_pure]
    rw [run_val e1]
    exact alW_ok h hs hf hd
  case buildSlice t len parts =>
    rw [ho] at h; dsimp only [opW] at h
    split at h
    · rename_i e hd1
      obtain ⟨n, hn, h⟩ := ev_iff.1 h
      obtain ⟨z, hz, h⟩ := ev_iff.1 h
      obtain ⟨ps, hp, h⟩ := ev_iff.1 h
      split at h
      · rename_i hc
        obtain ⟨l, hl, h⟩ := ev_iff.1 h
        unfold execOp
        rw [ho]; dsimp only
        obtain ⟨zv, hzr, hzz⟩ := run_zero hz w
        have hzl := zero_len hzr hzz
        have hfill : Instr.fill (fun i => some (i * n, n)) (zRow len z).toArray (parts.map fun (i, x) => (i, ρc x)).toList = some l.toArray := by
          have := fill_run (place := fun i => some (i * n, n)) parts.toList ps (zRow len z) l hρ hp hl
          simpa using this
        have e1 : (Instr.buildSlice t len (parts.map fun (i, x) => (i, ρc x))).run P w = .ok (.slice (some ⟨w.heap.size, 0, none⟩) len len) { w with heap := w.heap.push (Blk.cs l e).obj } := by
          unfold Instr.buildSlice
          simp only [Sem.run_bind, run_underlying hd1, Result.andThen_ok, run_size hn]
          rw [if_neg (by omega)]
          by_cases h0 : len * n = 0
          · simp only [h0, if_true]
            have e2 : zRow len z = [] := by
              have : (zRow len z).length = 0 := by simp [zRow, hc.2, h0]
              exact List.eq_nil_of_length_eq_zero this
            rw [e2] at hfill
            simp only [Sem.run_bind, Sem.run_pure, Result.andThen_ok]
            have e3 : ((Array.range 0).map fun (x : Nat) => (#[] : Array Value)[x % (#[] : Array Value).size]!) = (#[] : Array Value) := by simp
            rw [e3]
            rw [show (#[] : Array Value) = ([] : List Value).toArray from rfl, hfill]
            simp only [Sem.run_bind, newRow_run, Result.andThen_ok, Sem.run_pure]
          · have hz0 : 0 < zv.cells.size := by
              rw [hzl, hc.2]; rcases Nat.eq_zero_or_pos n with h1 | h1
              · exact absurd (by rw [h1]; simp) h0
              · exact h1
            simp only [if_neg h0, Sem.run_bind, hzr, Sem.run_pure, Result.andThen_ok]
            have e3 : ((Array.range (len * n)).map fun (x : Nat) => zv.cells[x % zv.cells.size]!) = (zRow len z).toArray := by
              have := zRow_range len zv.cells hz0
              rw [hzz] at this
              rw [← this, hzl, hc.2]
            rw [e3, hfill]
            simp only [Sem.run_bind, newRow_run, Result.andThen_ok, Sem.run_pure]
        rw [run_val e1]
        exact nsW_ok h hs hf hd
      · exact h.elim
    · exact h.elim
  case makeSlice t lo co =>
    rw [ho] at h; dsimp only [opW] at h
    split at h
    · rename_i e hd1
      obtain ⟨n, hn, h⟩ := ev_iff.1 h
      obtain ⟨by_, hby, h⟩ := ev_iff.1 h
      obtain ⟨z, hz, h⟩ := ev_iff.1 h
      obtain ⟨lv, hlv, h⟩ := ev_iff.1 h
      obtain ⟨cv, hcv, h⟩ := ev_iff.1 h
      split at h
      · rename_i hzl0
        cases lv with
        | int k1 l => cases cv with
          | int k2 c =>
          dsimp only [mkW] at h
          obtain ⟨⟨c1, c2, c3, c4⟩, h⟩ := h
          unfold execOp
          rw [ho]; dsimp only
          rw [hρ lo _ hlv, hρ co _ hcv]
          obtain ⟨zv, hzr, hzz⟩ := run_zero hz w
          have hzl := zero_len hzr hzz
          have hbi : ∃ i, P.info? e = some i ∧ i.bytes = by_ := by
            unfold bytT at hby; split at hby
            · rename_i i hi; exact ⟨i, hi, by simpa using hby⟩
            · cases hby
          obtain ⟨i, hi, hib⟩ := hbi
          have e1 : (Instr.makeSlice t (.int k1 l) (.int k2 c)).run P w = .ok (.slice (some ⟨w.heap.size, 0, none⟩) l.toNat c.toNat) { w with heap := w.heap.push (Blk.cs (zRow c.toNat z) e).obj } := by
            unfold Instr.makeSlice
            have ht : (typeInfo e).run P w = .ok i w := by simp only [typeInfo, Sem.run_bind, run_program, Result.andThen_ok, hi, Sem.run_pure]
            simp only [Sem.run_bind, run_underlying hd1, Result.andThen_ok, asInt, asIntOf, Sem.run_pure, ht, hib]
            rw [wrap_id (by omega) (by omega), wrap_id (by omega) (by omega)]
            have g1 : ¬ ((((decide (c < 0) || decide ((by_ : Int) * c > 2 ^ 48)) || decide (l < 0)) || decide (l > c)) = true) := by
              simp only [Bool.or_eq_true, decide_eq_true_eq, not_or]
              refine ⟨⟨⟨by omega, ?_⟩, by omega⟩, by omega⟩
              have : (2 : Int) ^ 48 = 281474976710656 := by decide
              omega
            rw [if_neg g1]
            simp only [Sem.run_bind, run_askRoom, Result.andThen_ok, run_size hn]
            by_cases h0 : c.toNat * n = 0
            · simp only [h0, if_true, Sem.run_bind, Sem.run_pure, Result.andThen_ok]
              have e2 : zRow c.toNat z = [] := by
                have : (zRow c.toNat z).length = 0 := by simp [zRow, hzl0, h0]
                exact List.eq_nil_of_length_eq_zero this
              have e3 : ((Array.range 0).map fun (x : Nat) => (#[] : Array Value)[x % (#[] : Array Value).size]!) = ([] : List Value).toArray := by simp
              rw [e3, e2, newRow_run]
              simp only [Result.andThen_ok]
            · have hz0 : 0 < zv.cells.size := by
                rw [hzl, hzl0]; rcases Nat.eq_zero_or_pos n with h1 | h1
                · exact absurd (by rw [h1]; simp) h0
                · exact h1
              simp only [if_neg h0, Sem.run_bind, hzr, Sem.run_pure, Result.andThen_ok]
              have e3 : ((Array.range (c.toNat * n)).map fun (x : Nat) => zv.cells[x % zv.cells.size]!) = (zRow c.toNat z).toArray := by
                have := zRow_range c.toNat zv.cells hz0
                rw [hzz] at this
                rw [← this, hzl, hzl0]
              rw [e3, newRow_run]
              simp only [Result.andThen_ok]
          rw [run_val e1]
          exact nsW_ok h hs hf hd
          | _ => exact h.elim
        | _ => exact h.elim
      · exact h.elim
    · exact h.elim
  case makeMap t r =>
    cases r with
    | some x => rw [ho] at h; dsimp only [opW, opR] at h; exact h.elim
    | none =>
      rw [ho] at h; dsimp only [opW] at h
      unfold execOp
      rw [ho]; dsimp only
      have e1 : (Instr.makeMap t none).run P w = .ok (.map (some w.heap.size)) { w with heap := w.heap.push (Blk.ob (.map #[] 0)).obj } := by
        simp only [Instr.makeMap, Sem.run_bind, Sem.run_pure, Result.andThen_ok, run_newObj]; rfl
      rw [show (none : Option Operand).map ρc = none from rfl, run_val e1]
      obtain ⟨a, b, c⟩ := new_ok hs hf hd (.ob (.map #[] 0)) _ rfl
      exact ⟨_, a, b, c, h _ hs.fresh⟩
  case lookup t x i ok =>
    rw [ho] at h; dsimp only [opW] at h
    obtain ⟨xv, hx, h⟩ := ev_iff.1 h
    obtain ⟨iv, hi, h⟩ := ev_iff.1 h
    unfold execOp
    rw [ho]; dsimp only
    rw [hρ x _ hx, hρ i _ hi]
    exact semW_val h hs hf hd
  case mapUpdate t m k x =>
    rw [ho] at h; dsimp only [opW] at h
    obtain ⟨mv, hm, h⟩ := ev_iff.1 h
    obtain ⟨kv, hk, h⟩ := ev_iff.1 h
    obtain ⟨xv, hx, h⟩ := ev_iff.1 h
    unfold execOp
    rw [ho]; dsimp only
    rw [hρ m _ hm, hρ k _ hk, hρ x _ hx]
    obtain ⟨_, w', H', hr, a, b, c, kk⟩ := h w F hs hf hd
    rw [run_unit hr]
    exact ⟨H', a, b, c, kk⟩
  case insert t m k x =>
    rw [ho] at h; dsimp only [opW] at h
    obtain ⟨mv, hm, h⟩ := ev_iff.1 h
    obtain ⟨kv, hk, h⟩ := ev_iff.1 h
    obtain ⟨xv, hx, h⟩ := ev_iff.1 h
    unfold execOp
    rw [ho]; dsimp only
    rw [hρ m _ hm, hρ k _ hk, hρ x _ hx]
    obtain ⟨_, w', H', hr, a, b, c, kk⟩ := h w F hs hf hd
    rw [run_unit hr]
    exact ⟨H', a, b, c, kk⟩
  case range t x =>
    rw [ho] at h; dsimp only [opW] at h
    obtain ⟨xv, hx, h⟩ := ev_iff.1 h
    unfold execOp
    rw [ho]; dsimp only
    rw [hρ x _ hx]
    exact semW_val h hs hf hd
  case next x sb =>
    rw [ho] at h; dsimp only [opW] at h
    obtain ⟨xv, hx, h⟩ := ev_iff.1 h
    unfold execOp
    rw [ho]; dsimp only
    rw [hρ x _ hx]
    exact semW_val h hs hf hd
  case call c =>
    rw [ho] at h; dsimp only [opW] at h
    unfold execOp
    rw [ho]; dsimp only
    exact callW_ok hρ c o.type h hs hf hd
  all_goals exact dflt (by rw [ho] at h ⊢; exact h)

end
end Go.Sl
namespace Go.Sl
open Go

section
variable {P : Program} {E : List TypeId} {H H' : Heap} {ρ ρ' : Operand → Option Value} {K K' : Value → Heap → Prop}

theorem ob_mono {β γ : Type} {o o' : Option β} {f f' : β → Option γ} {c : γ} (h : ob o f = some c) (ho : ∀ v, o = some v → o' = some v) (hf : ∀ v, f v = some c → f' v = some c) : ob o' f' = some c := by
  obtain ⟨v, h1, h2⟩ := ob_some h
  rw [ho v h1]; exact hf v h2
theorem ev_mono {β : Type} {o o' : Option β} {f f' : β → Prop} (h : ev o f) (ho : ∀ v, o = some v → o' = some v) (hf : ∀ v, f v → f' v) : ev o' f' := by
  obtain ⟨v, h1, h2⟩ := ev_iff.1 h
  rw [ho v h1]; exact hf v h2
theorem os_mono {l : List Operand} {vs : List Value} (hρ : ∀ x ∈ l, ∀ v, ρ x = some v → ρ' x = some v) (h : os ρ l = some vs) : os ρ' l = some vs := by
  induction l generalizing vs with
  | nil => exact h
  | cons x r ih =>
    simp only [os] at h ⊢
    cases h1 : ρ x with
    | none => simp [h1] at h
    | some v =>
      cases h2 : os ρ r with
      | none => simp [h1, h2] at h
      | some l' =>
        rw [h1, h2] at h
        rw [hρ x (by simp) v h1, ih (fun y hy => hρ y (by simp [hy])) h2]
        exact h
theorem oo_mono {x : Option Operand} {v : Option Value} (hρ : ∀ y, x = some y → ∀ v, ρ y = some v → ρ' y = some v) (h : oo ρ x = some v) : oo ρ' x = some v := by
  cases x with
  | none => exact h
  | some y =>
    simp only [oo] at h ⊢
    cases h1 : ρ y with
    | none => simp [h1] at h
    | some u => rw [h1] at h; rw [hρ y rfl u h1]; exact h
theorem pts_mono {place : Nat → Option (Nat × Nat)} {l : List (Nat × Operand)} {vs : List (Nat × Nat × Value)} (hρ : ∀ p ∈ l, ∀ v, ρ p.2 = some v → ρ' p.2 = some v) (h : pts place ρ l = some vs) : pts place ρ' l = some vs := by
  induction l generalizing vs with
  | nil => exact h
  | cons p r ih =>
    obtain ⟨i, x⟩ := p
    simp only [pts] at h ⊢
    cases h0 : place i with
    | none => simp [h0] at h
    | some on =>
      obtain ⟨off, n⟩ := on
      cases h1 : ρ x with
      | none => simp [h0, h1] at h
      | some v =>
        cases h2 : pts place ρ r with
        | none => simp [h0, h1, h2] at h
        | some l' =>
          simp only [h0, h1, h2] at h
          have e1 := hρ (i, x) (by simp) v h1
          simp only at e1
          simp only [e1, ih (fun q hq => hρ q (by simp [hq])) h2]
          exact h
theorem rdn_mono {k : Blk} {off n : Nat} : rdn k off n = rdn k off n := rfl
theorem ld1_mono (hs : Sub H H') {x v : Value} (h : ld1 H x = some v) : ld1 H' x = some v := by
  unfold ld1 at h ⊢
  split at h
  · rename_i b off
    cases hb : H b with
    | none => simp [hb] at h
    | some k => simp only [hb] at h; simp only [hs b k hb]; exact h
  · cases h
theorem ldn_mono (hs : Sub H H') {n : Nat} {x v : Value} (h : ldn n H x = some v) : ldn n H' x = some v := by
  unfold ldn at h ⊢
  split at h
  · rename_i b off
    cases hb : H b with
    | none => simp [hb] at h
    | some k => simp only [hb] at h; simp only [hs b k hb]; exact h
  · cases h
theorem lenM_mono (hs : Sub H H') {x v : Value} (h : lenM H x = some v) : lenM H' x = some v := by
  unfold lenM at h ⊢
  split at h
  · exact h
  · rename_i b
    cases hb : H b with
    | none => simp [hb] at h
    | some k => simp only [hb] at h; simp only [hs b k hb]; exact h
  · cases h
theorem builtR_mono (hs : Sub H H') {b : Builtin} {ts : List TypeId} {vs : List Value} {v : Value} (h : builtR P b ts vs H = some v) : builtR P b ts vs H' = some v := by
  cases b
  all_goals try (rcases vs with _ | ⟨x, _ | ⟨y, _ | ⟨z, q⟩⟩⟩ <;> rcases ts with _ | ⟨t, r⟩ <;> exact h)
  cases ts with
  | nil => exact h
  | cons t r => cases vs with
    | nil => exact h
    | cons x q => cases q with
      | cons y z => exact h
      | nil =>
        revert h
        simp only [builtR]
        cases P.underlying t with
        | none => exact id
        | some d => cases d <;> first | exact id | exact fun h => lenM_mono hs h

theorem opR_mono (hs : Sub H H') {op : Op} {v : Value} (hρ : ∀ x ∈ op.operands.toList, ∀ v, ρ x = some v → ρ' x = some v) (h : opR P E ρ H op = some v) : opR P E ρ' H' op = some v := by
  cases op with
  | move x => exact hρ x (by simp [Op.operands]) _ h
  | assign x => exact hρ x (by simp [Op.operands]) _ h
  | pick c a b => exact ob_mono h (hρ c (by simp [Op.operands])) fun _ h => ob_mono h (hρ a (by simp [Op.operands])) fun _ h => ob_mono h (hρ b (by simp [Op.operands])) fun _ h => h
  | load t a =>
    refine ob_mono h (hρ a (by simp [Op.operands])) fun av h => ?_
    revert h
    try dsimp only
    split
    · split
      · exact fun h => ob_mono h (fun _ h => h) fun _ h => ldn_mono hs h
      · exact fun h => ld1_mono hs h
    · exact fun h => h
  | nilCheck x => exact ob_mono h (hρ x (by simp [Op.operands])) fun _ h => h
  | binOp op t x y yt => exact ob_mono h (hρ x (by simp [Op.operands])) fun _ h => ob_mono h (hρ y (by simp [Op.operands])) fun _ h => h
  | unOp op t x => exact ob_mono h (hρ x (by simp [Op.operands])) fun _ h => h
  | convert s d x => exact ob_mono h (hρ x (by simp [Op.operands])) fun _ h => h
  | makeFunc fn first cap =>
    exact ob_mono h (fun _ h => os_mono (fun x hx => hρ x (by simp [Op.operands]; simp at hx; exact .inl hx)) h) fun _ h => ob_mono h (fun _ h => os_mono (fun x hx => hρ x (by simp [Op.operands]; simp at hx; exact .inr hx)) h) fun _ h => h
  | slice t x lo hi mx =>
    exact ob_mono h (hρ x (by simp [Op.operands])) fun _ h => ob_mono h (fun _ h => oo_mono (fun y hy => hρ y (by subst hy; simp [Op.operands])) h) fun _ h =>
      ob_mono h (fun _ h => oo_mono (fun y hy => hρ y (by subst hy; simp [Op.operands])) h) fun _ h => ob_mono h (fun _ h => oo_mono (fun y hy => hρ y (by subst hy; simp [Op.operands])) h) fun _ h => h
  | fieldAddr s x f => exact ob_mono h (hρ x (by simp [Op.operands])) fun _ h => h
  | field t x f => exact ob_mono h (hρ x (by simp [Op.operands])) fun _ h => h
  | indexAddr t x i => exact ob_mono h (hρ x (by simp [Op.operands])) fun _ h => ob_mono h (hρ i (by simp [Op.operands])) fun _ h => h
  | index t x i => exact ob_mono h (hρ x (by simp [Op.operands])) fun _ h => ob_mono h (hρ i (by simp [Op.operands])) fun _ h => h
  | extract x i => exact ob_mono h (hρ x (by simp [Op.operands])) fun _ h => h
  | build t parts =>
    have hp : ∀ p ∈ parts.toList, ∀ v, ρ p.2 = some v → ρ' p.2 = some v := fun p hp => hρ p.2 (by simp [Op.operands]; exact ⟨p.1, by simpa using hp⟩)
    refine ob_mono h (fun _ h => h) fun z h => ?_
    revert h
    try dsimp only
    split
    · split
      · exact fun h => ob_mono h (fun _ h => pts_mono hp h) fun _ h => h
      · exact fun h => h
    · exact fun h => ob_mono h (fun _ h => h) fun _ h => ob_mono h (fun _ h => pts_mono hp h) fun _ h => h
    · exact fun h => h
  | call c =>
    obtain ⟨callee, args, ts⟩ := c
    cases callee with
    | builtin b => exact ob_mono h (fun _ h => os_mono (fun x hx => hρ x (by simp [Op.operands, Call.operands]; simpa using hx)) h) fun _ h => builtR_mono hs h
    | value f => exact absurd h (by simp [opR])
    | invoke a b => exact absurd h (by simp [opR])
  | _ => exact absurd h (by simp [opR])

theorem semW_mono {β : Type} {s : Sem β} {K K' : β → Heap → Prop} (hK : ∀ v H, K v H → K' v H) (h : semW P s H K) : semW P s H K' := fun w F a b c =>
  let ⟨v, w', H', h1, h2, h3, h4, k⟩ := h w F a b c; ⟨v, w', H', h1, h2, h3, h4, hK _ _ k⟩
theorem Yd_mono {l : Nat} {args : List Value} (hK : ∀ v H, K v H → K' v H) (h : Yd P l args H K) : Yd P l args H K' := fun w F a b c =>
  let ⟨f, t, x, y, h1, h2⟩ := h w F a b c; ⟨f, t, x, y, h1, h2.mono fun _ _ hf => hf.mono hK⟩
theorem clW_mono {f : Value} {args : List Value} (hK : ∀ v H, K v H → K' v H) (h : clW P f args H K) : clW P f args H K' := by
  unfold clW at h ⊢
  split at h
  · exact h.mono hK
  · exact Yd_mono hK h
  · exact h
theorem nsW_mono {e : TypeId} {l c : Nat} {zs : List Value} (hK : ∀ v H, K v H → K' v H) (h : nsW e l c zs H K) : nsW e l c zs H K' := fun b hb => hK _ _ (h b hb)
theorem alW_mono {e : TypeId} {zs : List Value} (hK : ∀ v H, K v H → K' v H) (h : alW e zs H K) : alW e zs H K' := fun b hb => hK _ _ (h b hb)
theorem mkW_mono {e : TypeId} {by_ : Nat} {z : List Value} {l c : Value} (hK : ∀ v H, K v H → K' v H) (h : mkW e by_ z l c H K) : mkW e by_ z l c H K' := by
  unfold mkW at h ⊢
  split at h
  · exact ⟨h.1, nsW_mono hK h.2⟩
  · exact h
theorem callW_mono {ce : Callee} {args : List Operand} {ts : List TypeId} (hK : ∀ v H, K v H → K' v H) (hc : ∀ x, ce = .value x → ∀ v, ρ x = some v → ρ' x = some v) (hρ : ∀ x ∈ args, ∀ v, ρ x = some v → ρ' x = some v)
    (h : callW P ρ H ce args ts K) : callW P ρ' H ce args ts K' := by
  unfold callW at h ⊢
  split at h
  · exact ev_mono h (hc _ rfl) fun _ h => ev_mono h (fun _ h => os_mono hρ h) fun _ h => clW_mono hK h
  · exact h
  · refine ev_mono h (fun _ h => os_mono hρ h) fun vs h => ?_
    revert h
    try dsimp only
    split
    · exact semW_mono hK
    · exact semW_mono hK
    · exact semW_mono hK
    · exact semW_mono hK
    · exact fun h => ev_mono h (fun _ h => h) fun _ h => hK _ _ h

theorem opW_mono (hK : ∀ v H, K v H → K' v H) {op : Op} (hρ : ∀ x ∈ op.operands.toList, ∀ v, ρ x = some v → ρ' x = some v) (h : opW P E ρ H op K) : opW P E ρ' H op K' := by
  have dflt : ev (opR P E ρ H op) (fun v => K v H) → ev (opR P E ρ' H op) (fun v => K' v H) := fun h => ev_mono h (fun _ h => opR_mono (Sub.refl H) hρ h) fun _ h => hK _ _ h
  cases op with
  | store t a v => exact ev_mono h (hρ a (by simp [Op.operands])) fun _ h => ev_mono h (hρ v (by simp [Op.operands])) fun _ h => ev_mono h (fun _ h => h) fun _ h => ev_mono h (fun _ h => h) fun _ h => hK _ _ h
  | alloc e => exact ev_mono h (fun _ h => h) fun _ h => alW_mono hK h
  | box e x => exact ev_mono h (hρ x (by simp [Op.operands])) fun _ h => alW_mono hK h
  | buildSlice t len parts =>
    have hp : ∀ p ∈ parts.toList, ∀ v, ρ p.2 = some v → ρ' p.2 = some v := fun p hp => hρ p.2 (by simp [Op.operands]; exact ⟨p.1, by simpa using hp⟩)
    revert h
    dsimp only [opW]
    split
    · exact fun h => ev_mono h (fun _ h => h) fun _ h => ev_mono h (fun _ h => h) fun _ h => ev_mono h (fun _ h => pts_mono hp h) fun _ h => by
        revert h; try dsimp only
        split
        · exact fun h => ev_mono h (fun _ h => h) fun _ h => nsW_mono hK h
        · exact id
    · exact id
  | makeSlice t l c =>
    revert h
    dsimp only [opW]
    split
    · exact fun h => ev_mono h (fun _ h => h) fun _ h => ev_mono h (fun _ h => h) fun _ h => ev_mono h (fun _ h => h) fun _ h => ev_mono h (hρ l (by simp [Op.operands])) fun _ h => ev_mono h (hρ c (by simp [Op.operands])) fun _ h => by
        revert h; try dsimp only
        split
        · exact mkW_mono hK
        · exact id
    · exact id
  | makeMap t r =>
    cases r with
    | none => exact fun b hb => hK _ _ (h b hb)
    | some x => exact dflt h
  | lookup t x i ok => exact ev_mono h (hρ x (by simp [Op.operands])) fun _ h => ev_mono h (hρ i (by simp [Op.operands])) fun _ h => semW_mono hK h
  | mapUpdate t m k x => exact ev_mono h (hρ m (by simp [Op.operands])) fun _ h => ev_mono h (hρ k (by simp [Op.operands])) fun _ h => ev_mono h (hρ x (by simp [Op.operands])) fun _ h => semW_mono (fun _ _ h => hK _ _ h) h
  | insert t m k x => exact ev_mono h (hρ m (by simp [Op.operands])) fun _ h => ev_mono h (hρ k (by simp [Op.operands])) fun _ h => ev_mono h (hρ x (by simp [Op.operands])) fun _ h => semW_mono (fun _ _ h => hK _ _ h) h
  | range t x => exact ev_mono h (hρ x (by simp [Op.operands])) fun _ h => semW_mono hK h
  | next x s => exact ev_mono h (hρ x (by simp [Op.operands])) fun _ h => semW_mono hK h
  | call c =>
    refine callW_mono hK (fun x hx => hρ x (by simp [Op.operands, Call.operands, hx])) (fun x hx => hρ x ?_) h
    simp only [Op.operands, Call.operands, Array.toList_append, List.mem_append]; exact .inr hx
  | _ => exact dflt h

/-- Reads, or only reckons. -/
def isR : Op → Bool
  | .move _ | .assign _ | .pick .. | .load .. | .nilCheck _ | .binOp .. | .unOp .. | .convert .. | .makeFunc .. | .slice .. | .fieldAddr .. | .field .. | .indexAddr .. | .index .. | .extract .. | .build .. => true
  | .call ⟨.builtin .len, _, _⟩ | .call ⟨.builtin .cap, _, _⟩ | .call ⟨.builtin .min, _, _⟩ | .call ⟨.builtin .max, _, _⟩ => true
  | _ => false
/-- Only reckons. -/
def isP : Op → Bool
  | .move _ | .assign _ | .pick .. | .nilCheck _ | .binOp .. | .unOp .. | .convert .. | .makeFunc .. | .slice .. | .fieldAddr .. | .field .. | .indexAddr .. | .index .. | .extract .. | .build .. => true
  | _ => false
/-- Leaves all that was known as it was. -/
def isMild : Op → Bool
  | .alloc _ | .box .. | .buildSlice .. | .makeMap _ none => true
  | op => isR op

theorem isP_isR {op : Op} (h : isP op = true) : isR op = true := by cases op <;> first | rfl | cases h
theorem isR_opW {op : Op} (h : isR op = true) : opW P E ρ H op K = ev (opR P E ρ H op) fun v => K v H := by
  cases op <;> first | rfl | (simp [isR] at h; done) | skip
  rename_i c
  obtain ⟨ce, args, ts⟩ := c
  cases ce with
  | value f => simp [isR] at h
  | invoke a b => simp [isR] at h
  | builtin b =>
    simp only [opW, callW, opR]
    cases b <;> first | (simp [isR] at h; done) | (cases os ρ args.toList <;> rfl)
theorem isP_opR {op : Op} (h : isP op = true) : opR P E ρ H op = opR P E ρ H' op := by cases op <;> first | rfl | cases h

theorem opW_mild {op : Op} (hm : isMild op = true) (h : opW P E ρ H op K) : opW P E ρ H op fun v H' => K v H' ∧ Sub H H' := by
  cases hr : isR op with
  | true =>
    rw [isR_opW hr] at h ⊢
    exact h.mono fun v hv => ⟨hv, Sub.refl H⟩
  | false =>
    cases op <;> first
      | (simp [isR] at hr; done)
      | (simp [isMild, isR] at hm; done)
      | skip
    case alloc e => exact h.mono fun z hz b hb => ⟨hz b hb, Sub.upd_fresh _ hb⟩
    case box e x => exact h.mono fun z hz b hb => ⟨hz b hb, Sub.upd_fresh _ hb⟩
    case buildSlice t len parts =>
      revert h
      dsimp only [opW]
      split
      · exact fun h => h.mono fun n h => h.mono fun z h => h.mono fun ps h => by
          revert h; try dsimp only
          split
          · exact fun h => h.mono fun l hz b hb => ⟨hz b hb, Sub.upd_fresh _ hb⟩
          · exact id
      · exact id
    case makeMap t r =>
      cases r with
      | none => exact fun b hb => ⟨h b hb, Sub.upd_fresh _ hb⟩
      | some x => simp [isMild, isR] at hm
    case call c => simp only [isMild] at hm; rw [hr] at hm; cases hm
end
end Go.Sl
namespace Go.Sl
open Go

section
variable {P : Program} {E : List TypeId} {H : Heap} {ρ ρ' : Operand → Option Value} {K : Value → Heap → Prop}

/-- With one more block beside. -/
def Wit (b : Nat) (k : Blk) (K : Value → Heap → Prop) (v : Value) (H' : Heap) : Prop := ∃ H1, H' = upd H1 b k ∧ H1 b = none ∧ K v H1

theorem sat_upd_iff {w : World} {H : Heap} {b : Nat} {k : Blk} (hb : H b = none) (h : Sat w (upd H b k)) : Sat w H := h.sub (Sub.upd_fresh k hb)
theorem frame_in {w : World} {H F : Heap} {b : Nat} {k : Blk} (hb : H b = none) (hS : Sat w (upd H b k)) (hF : Sat w F) (hD : Dis (upd H b k) F) :
    Sat w H ∧ Sat w (upd F b k) ∧ Dis H (upd F b k) := by
  refine ⟨sat_upd_iff hb hS, fun c x hx => ?_, fun c => ?_⟩
  · unfold upd at hx
    split at hx
    · rename_i e; subst e; cases hx; exact hS c _ (upd_same _ _ _)
    · exact hF c x hx
  · by_cases e : c = b
    · subst e; exact .inl hb
    · rw [upd_ne e]
      rcases hD c with h | h
      · rw [upd_ne e] at h; exact .inl h
      · exact .inr h
theorem frame_out {w' : World} {H' F : Heap} {b : Nat} {k : Blk} (hFb : F b = none) (hS : Sat w' H') (hF : Sat w' (upd F b k)) (hD : Dis H' (upd F b k)) :
    Sat w' (upd H' b k) ∧ Sat w' F ∧ Dis (upd H' b k) F ∧ H' b = none := by
  have hn : H' b = none := (hD b).resolve_right (by rw [upd_same]; simp)
  refine ⟨fun c x hx => ?_, fun c x hx => ?_, fun c => ?_, hn⟩
  · by_cases e : c = b
    · subst e; rw [upd_same] at hx; cases hx; exact hF c _ (upd_same _ _ _)
    · rw [upd_ne e] at hx; exact hS c x hx
  · by_cases e : c = b
    · subst e; rw [hFb] at hx; cases hx
    · exact hF c x (by rw [upd_ne e]; exact hx)
  · by_cases e : c = b
    · subst e; exact .inr hFb
    · rw [upd_ne e]
      rcases hD c with h | h
      · exact .inl h
      · rw [upd_ne e] at h; exact .inr h

theorem semW_frame {β : Type} {s : Sem β} {K : β → Heap → Prop} (h : semW P s H K) {b : Nat} (k : Blk) (hb : H b = none) : semW P s (upd H b k) fun v H' => ∃ H1, H' = upd H1 b k ∧ H1 b = none ∧ K v H1 := by
  intro w F hS hF hD
  have hFb : F b = none := (hD b).resolve_left (by rw [upd_same]; simp)
  obtain ⟨a1, a2, a3⟩ := frame_in hb hS hF hD
  obtain ⟨v, w', H', hr, c1, c2, c3, kk⟩ := h w _ a1 a2 a3
  obtain ⟨d1, d2, d3, d4⟩ := frame_out hFb c1 c2 c3
  exact ⟨v, w', _, hr, d1, d2, d3, H', rfl, d4, kk⟩
theorem Fin_frame {F : Heap} {b : Nat} {k : Blk} (hFb : F b = none) {e : Ending} {w' : World} (h : Fin (upd F b k) K e w') : Fin F (Wit b k K) e w' := by
  obtain ⟨v, H', he, c1, c2, c3, kk⟩ := h
  obtain ⟨d1, d2, d3, d4⟩ := frame_out hFb c1 c2 c3
  exact ⟨v, _, he, d1, d2, d3, H', rfl, d4, kk⟩
theorem T_frame1 {f : FuncId} {args : List Value} (h : T P f args H K) {b : Nat} (k : Blk) (hb : H b = none) : T P f args (upd H b k) (Wit b k K) := by
  refine h.imp (fun h => ⟨h.1, fun w F hS hF hD => ?_⟩) fun h w F hS hF hD => ?_
  · have hFb : F b = none := (hD b).resolve_left (by rw [upd_same]; simp)
    obtain ⟨a1, a2, a3⟩ := frame_in hb hS hF hD
    exact (h.2 w _ a1 a2 a3).mono fun _ _ hf => Fin_frame hFb hf
  · have hFb : F b = none := (hD b).resolve_left (by rw [upd_same]; simp)
    obtain ⟨a1, a2, a3⟩ := frame_in hb hS hF hD
    obtain ⟨v, w', H', hr, c1, c2, c3, kk⟩ := h w _ a1 a2 a3
    obtain ⟨d1, d2, d3, d4⟩ := frame_out hFb c1 c2 c3
    exact ⟨v, w', _, hr, d1, d2, d3, H', rfl, d4, kk⟩
theorem Yd_frame {l : Nat} {args : List Value} (h : Yd P l args H K) {b : Nat} (k : Blk) (hb : H b = none) : Yd P l args (upd H b k) (Wit b k K) := by
  intro w F hS hF hD
  have hFb : F b = none := (hD b).resolve_left (by rw [upd_same]; simp)
  obtain ⟨a1, a2, a3⟩ := frame_in hb hS hF hD
  obtain ⟨f, tmps, asg, body, h1, h2⟩ := h w _ a1 a2 a3
  exact ⟨f, tmps, asg, body, h1, h2.mono fun _ _ hf => Fin_frame hFb hf⟩
theorem clW_frame {f : Value} {args : List Value} (h : clW P f args H K) {b : Nat} (k : Blk) (hb : H b = none) : clW P f args (upd H b k) (Wit b k K) := by
  unfold clW at h ⊢
  split at h
  · exact T_frame1 h k hb
  · exact Yd_frame h k hb
  · exact h
theorem new_frame {x : Nat → Value} {k' : Blk} (h : ∀ b', H b' = none → K (x b') (upd H b' k')) {b : Nat} (k : Blk) (hb : H b = none) : ∀ b', upd H b k b' = none → Wit b k K (x b') (upd (upd H b k) b' k') := by
  intro b' hb'
  have hne : b' ≠ b := fun e => by subst e; rw [upd_same] at hb'; cases hb'
  rw [upd_ne hne] at hb'
  exact ⟨upd H b' k', upd_comm (Ne.symm hne), by rw [upd_ne (Ne.symm hne)]; exact hb, h b' hb'⟩
theorem mkW_frame {e : TypeId} {by_ : Nat} {z : List Value} {l c : Value} (h : mkW e by_ z l c H K) {b : Nat} (k : Blk) (hb : H b = none) : mkW e by_ z l c (upd H b k) (Wit b k K) := by
  unfold mkW at h ⊢
  split at h
  · exact ⟨h.1, new_frame (x := fun b => .slice (some ⟨b, 0, none⟩) _ _) h.2 k hb⟩
  · exact h
theorem sto_frame {n : Nat} {p v : Value} {H' : Heap} (h : sto n H p v = some H') {b : Nat} (k : Blk) (hb : H b = none) : sto n (upd H b k) p v = some (upd H' b k) ∧ H' b = none := by
  unfold sto at h ⊢
  split at h
  · rename_i b0 off
    split at h
    · rename_i c e h0
      have hne : b0 ≠ b := fun e => by subst e; rw [hb] at h0; cases h0
      split at h
      · rename_i hc
        cases h
        simp only [upd_ne hne, h0, if_pos hc]
        exact ⟨by rw [upd_comm (Ne.symm hne)], by rw [upd_ne (Ne.symm hne)]; exact hb⟩
      · cases h
    · cases h
  · cases h

theorem opW_frame {op : Op} (h : opW P E ρ H op K) {b : Nat} (k : Blk) (hb : H b = none) : opW P E ρ (upd H b k) op (Wit b k K) := by
  have dflt : ev (opR P E ρ H op) (fun v => K v H) → ev (opR P E ρ (upd H b k) op) (fun v => Wit b k K v (upd H b k)) := fun h =>
    ev_mono h (fun _ h => opR_mono (Sub.upd_fresh k hb) (fun _ _ _ h => h) h) fun v h => ⟨H, rfl, hb, h⟩
  cases op with
  | store t a v =>
    refine ev_mono h (fun _ h => h) fun _ h => ev_mono h (fun _ h => h) fun _ h => ev_mono h (fun _ h => h) fun _ h => ?_
    obtain ⟨H', e, hk⟩ := ev_iff.1 h
    obtain ⟨e', hn⟩ := sto_frame e k hb
    rw [e', ev_some]
    exact ⟨H', rfl, hn, hk⟩
  | alloc e => exact ev_mono h (fun _ h => h) fun _ h => new_frame (x := fun b => .pointer (some ⟨b, 0, none⟩)) h k hb
  | box e x => exact ev_mono h (fun _ h => h) fun _ h => new_frame (x := fun b => .pointer (some ⟨b, 0, none⟩)) h k hb
  | buildSlice t len parts =>
    revert h
    dsimp only [opW]
    split
    · exact fun h => ev_mono h (fun _ h => h) fun _ h => ev_mono h (fun _ h => h) fun _ h => ev_mono h (fun _ h => h) fun _ h => by
        revert h; try dsimp only
        split
        · exact fun h => ev_mono h (fun _ h => h) fun _ h => new_frame (x := fun b => .slice (some ⟨b, 0, none⟩) _ _) h k hb
        · exact id
    · exact id
  | makeSlice t l c =>
    revert h
    dsimp only [opW]
    split
    · exact fun h => ev_mono h (fun _ h => h) fun _ h => ev_mono h (fun _ h => h) fun _ h => ev_mono h (fun _ h => h) fun _ h => ev_mono h (fun _ h => h) fun _ h => ev_mono h (fun _ h => h) fun _ h => by
        revert h; try dsimp only
        split
        · exact fun h => mkW_frame h k hb
        · exact id
    · exact id
  | makeMap t r =>
    cases r with
    | none => exact new_frame (x := fun b => .map (some b)) h k hb
    | some x => exact dflt h
  | lookup t x i ok => exact ev_mono h (fun _ h => h) fun _ h => ev_mono h (fun _ h => h) fun _ h => semW_frame h k hb
  | mapUpdate t m k' x => exact ev_mono h (fun _ h => h) fun _ h => ev_mono h (fun _ h => h) fun _ h => ev_mono h (fun _ h => h) fun _ h => semW_frame h k hb
  | insert t m k' x => exact ev_mono h (fun _ h => h) fun _ h => ev_mono h (fun _ h => h) fun _ h => ev_mono h (fun _ h => h) fun _ h => semW_frame h k hb
  | range t x => exact ev_mono h (fun _ h => h) fun _ h => semW_frame h k hb
  | next x s => exact ev_mono h (fun _ h => h) fun _ h => semW_frame h k hb
  | call c =>
    revert h
    dsimp only [opW]
    unfold callW
    split
    · exact fun h => ev_mono h (fun _ h => h) fun _ h => ev_mono h (fun _ h => h) fun _ h => clW_frame h k hb
    · exact id
    · refine fun h => ev_mono h (fun _ h => h) fun vs h => ?_
      revert h
      try dsimp only
      split
      · exact fun h => semW_frame h k hb
      · exact fun h => semW_frame h k hb
      · exact fun h => semW_frame h k hb
      · exact fun h => semW_frame h k hb
      · rename_i bb ts vs' n1 n2 n3 n4
        intro h
        refine ev_mono h (fun v h => ?_) fun v h => ⟨H, rfl, hb, h⟩
        exact builtR_mono (Sub.upd_fresh k hb) h
  | _ => exact dflt h

/-! ### Operations that only make a block -/
def isAl : Op → Bool
  | .alloc _ | .box .. | .buildSlice .. => true
  | _ => false
/-- What it lays down, and what it yields. -/
def alR (P : Program) (ρ : Operand → Option Value) : Op → Option (List Value × TypeId × (Nat → Value))
  | .alloc e => ob (zeT P e) fun z => some (z, e, fun b => .pointer (some ⟨b, 0, none⟩))
  | .box e x => ob (ρ x) fun v => some (v.cells.toList, e, fun b => .pointer (some ⟨b, 0, none⟩))
  | .buildSlice t len parts => match P.underlying t with
    | some (.slice e) => ob (szT P e) fun n => ob (zeT P e) fun z => ob (pts (fun i => some (i * n, n)) ρ parts.toList) fun ps =>
        if len * n ≤ 16777216 ∧ z.length = n then ob (bldL (zRow len z) ps) fun l => some (l, e, fun b => .slice (some ⟨b, 0, none⟩) len len) else none
    | _ => none
  | _ => none
/-- .. that it can. -/
def alC (P : Program) (ρ : Operand → Option Value) (op : Op) (K : Prop) : Prop := match op with
  | .alloc e => ev (zeT P e) fun _ => K
  | .box _ x => ev (ρ x) fun _ => K
  | .buildSlice t len parts => match P.underlying t with
    | some (.slice e) => ev (szT P e) fun n => ev (zeT P e) fun z => ev (pts (fun i => some (i * n, n)) ρ parts.toList) fun ps =>
        if len * n ≤ 16777216 ∧ z.length = n then ev (bldL (zRow len z) ps) fun _ => K else False
    | _ => False
  | _ => False

theorem alC_spec {op : Op} {K : Prop} (h : alC P ρ op K) : (∃ r, alR P ρ op = some r) ∧ K := by
  cases op <;> try exact h.elim
  case alloc e => obtain ⟨z, hz, hk⟩ := ev_iff.1 h; exact ⟨⟨_, by simp only [alR, hz, ob]; rfl⟩, hk⟩
  case box e x => obtain ⟨z, hz, hk⟩ := ev_iff.1 h; exact ⟨⟨_, by simp only [alR, hz, ob]; rfl⟩, hk⟩
  case buildSlice t len parts =>
    revert h
    dsimp only [alC, alR]
    split
    · intro h
      obtain ⟨n, h1, h⟩ := ev_iff.1 h
      obtain ⟨z, h2, h⟩ := ev_iff.1 h
      obtain ⟨ps, h3, h⟩ := ev_iff.1 h
      split at h
      · rename_i hc
        obtain ⟨l, h4, h⟩ := ev_iff.1 h
        exact ⟨⟨_, by simp only [h1, h2, h3, ob, if_pos hc, h4]; rfl⟩, h⟩
      · exact h.elim
    · exact fun h => h.elim

theorem al_opW {op : Op} (hal : isAl op = true) : opW P E ρ H op K ↔ ∃ r, alR P ρ op = some r ∧ ∀ b, H b = none → K (r.2.2 b) (upd H b (.cs r.1 r.2.1)) := by
  cases op <;> try (simp [isAl] at hal; done)
  case alloc e =>
    dsimp only [opW, alR]
    cases zeT P e with
    | none => simp [ev, ob]
    | some z => simp only [ev_some, ob, alW]; exact ⟨fun h => ⟨_, rfl, h⟩, fun ⟨r, hr, h⟩ => by cases hr; exact h⟩
  case box e x =>
    dsimp only [opW, alR]
    cases ρ x with
    | none => simp [ev, ob]
    | some z => simp only [ev_some, ob, alW]; exact ⟨fun h => ⟨_, rfl, h⟩, fun ⟨r, hr, h⟩ => by cases hr; exact h⟩
  case buildSlice t len parts =>
    simp only [opW, alR]
    cases hd : P.underlying t with
    | none => simp
    | some d =>
      cases d <;> try (simp; done)
      rename_i e
      dsimp only
      constructor
      · intro h
        obtain ⟨n, h1, h⟩ := ev_iff.1 h
        obtain ⟨z, h2, h⟩ := ev_iff.1 h
        obtain ⟨ps, h3, h⟩ := ev_iff.1 h
        split at h
        · rename_i hc
          obtain ⟨l, h4, h⟩ := ev_iff.1 h
          exact ⟨(l, e, fun b => .slice (some ⟨b, 0, none⟩) len len), by simp only [h1, h2, h3, ob, if_pos hc, h4], h⟩
        · exact h.elim
      · rintro ⟨r, hr, h⟩
        obtain ⟨n, h1, hr⟩ := ob_some hr
        obtain ⟨z, h2, hr⟩ := ob_some hr
        obtain ⟨ps, h3, hr⟩ := ob_some hr
        split at hr
        · rename_i hc
          obtain ⟨l, h4, hr⟩ := ob_some hr
          cases hr
          rw [h1, ev_some, h2, ev_some, h3, ev_some, if_pos hc, h4, ev_some]
          exact h
        · cases hr

theorem alR_mono {op : Op} {r : List Value × TypeId × (Nat → Value)} (hρ : ∀ x ∈ op.operands.toList, ∀ v, ρ x = some v → ρ' x = some v) (h : alR P ρ op = some r) : alR P ρ' op = some r := by
  cases op <;> try exact h
  case box e x => exact ob_mono h (hρ x (by simp [Op.operands])) fun _ h => h
  case buildSlice t len parts =>
    have hp : ∀ p ∈ parts.toList, ∀ v, ρ p.2 = some v → ρ' p.2 = some v := fun p hp => hρ p.2 (by simp [Op.operands]; exact ⟨p.1, by simpa using hp⟩)
    revert h
    dsimp only [alR]
    split
    · exact fun h => ob_mono h (fun _ h => h) fun _ h => ob_mono h (fun _ h => h) fun _ h => ob_mono h (fun _ h => pts_mono hp h) fun _ h => h
    · exact id
end
end Go.Sl

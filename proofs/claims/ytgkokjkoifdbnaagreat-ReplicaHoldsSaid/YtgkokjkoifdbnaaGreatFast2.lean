import Derived.Test.YtgkokjkoifdbnaaGreatFast1
/- The interpreter again, fast for Lean's kernel; it tells what it told. -/
namespace Go.Am
set_option autoImplicit false
set_option linter.unusedVariables false

noncomputable def tsetF (t : TM) : Nat → AV → TM :=
  TM.rec (motive := fun _ => Nat → AV → TM) (fun _ _ => .nil) (fun a n y => bif Nat.beq n 0 then .one y else .one a) (fun l r il ir n y => bif Nat.beq (n % 2) 0 then .two (il (n / 2) y) r else .two l (ir (n / 2) y)) t
theorem tsetF_eq (t : TM) : tsetF t = tset t := by
  induction t with
  | nil => rfl
  | one a => rfl
  | two l r il ir => funext n y; show (bif _ then TM.two (tsetF l _ _) r else TM.two l (tsetF r _ _)) = _; rw [il, ir]; rfl
noncomputable def goesF (tm : TM) (o : AOper) : Bool :=
  match o.guard with
  | none => true
  | some (t, want) => match tgetF tm t with
    | .v (.bool b) => b == want
    | _ => false
theorem goesF_eq (tm : TM) (o : AOper) : goesF tm o = goes tm o := by
  unfold goesF goes; rw [tgetF_eq]; rfl
noncomputable def putF (s : St) (o : AOper) (a : AV) : St := match o.dst with
  | none => s
  | some d => { s with tm := tsetF s.tm d a }
theorem putF_eq (s : St) (o : AOper) (a : AV) : putF s o a = s.put o a := by
  unfold putF St.put; rw [tsetF_eq]; rfl
noncomputable def opAF (T : Table) (ex : Exec) (id : Nat) (o : AOper) (s : St) : Option St :=
  bif goesF s.tm o then
    match aopF o.op s.tm id s.H with
    | none => none
    | some (.val a H) => some (putF { s with H := H } o a)
    | some (.call g args) => match callF T ex id g args s.H s.nx with
      | none => none
      | some (a, H, nx) => some (putF { s with H := H, nx := nx } o a)
  else some (putF s o aundef)
theorem opAF_eq (T : Table) (ex : Exec) (id : Nat) (o : AOper) (s : St) : opAF T ex id o s = opA T ex id o s := by
  unfold opAF opA; simp only [goesF_eq, aopF_eq, putF_eq]; rfl
noncomputable def regOpsF (T : Table) (ex : Exec) (os : List AOper) : Nat → St → Option St :=
  List.rec (motive := fun _ => Nat → St → Option St) (fun _ s => some s) (fun o _ rest id s => match opAF T ex id o s with
    | none => none
    | some s' => rest (Nat.succ id) s') os
theorem regOpsF_eq (T : Table) (ex : Exec) (base : Nat) : ∀ (os : List AOper) (i : Nat) (s : St), regOpsF T ex os (base + i) s = regOps T ex base os i s
  | [], i, s => rfl
  | o :: os, i, s => by
    show (match opAF T ex (base + i) o s with
      | none => none
      | some s' => regOpsF T ex os (Nat.succ (base + i)) s') = _
    simp only [regOps, opAF_eq]
    split
    · rename_i h; simp only [h]
    · rename_i s' h; simp only [h]; exact regOpsF_eq T ex base os (i + 1) s'
noncomputable def dopAF (T : Table) (ex : Exec) (id : Nat) (o : AOper) (s : St) : Option DR :=
  bif goesF s.tm o then
    let t := touchA s.tm s.H o.op
    let Hc := hin t s.H
    match aopF o.op s.tm id Hc with
    | none => none
    | some (.val a H2) => some (bif o.op.makes T then ⟨a, t, t, H2, s.nx⟩ else ⟨a, t, [], [], s.nx⟩)
    | some (.call g args) => match callF T ex id g args Hc s.nx with
      | none => none
      | some (a, H2, nx) => some (bif o.op.makes T then ⟨a, t, t, H2, bif o.op.numbers T then nx else s.nx⟩ else ⟨a, t, [], [], s.nx⟩)
  else some ⟨aundef, [], [], [], s.nx⟩
theorem dopAF_eq (T : Table) (ex : Exec) (id : Nat) (o : AOper) (s : St) : dopAF T ex id o s = dopA T ex id o s := by
  unfold dopAF dopA; simp only [goesF_eq, aopF_eq]; rfl
noncomputable def dputF (s : St) (dst : Option Nat) (d : DR) : St :=
  { tm := match dst with
      | none => s.tm
      | some k => tsetF s.tm k d.r
    H := d.H2 ++ hout d.wr s.H
    nx := d.nx }
theorem dputF_eq (s : St) (dst : Option Nat) (d : DR) : dputF s dst d = dput s dst d := by
  unfold dputF dput; rw [tsetF_eq]; rfl
noncomputable def dregOpsF (T : Table) (ex : Exec) (os : List AOper) : Nat → St → Option (List DR × St) :=
  List.rec (motive := fun _ => Nat → St → Option (List DR × St)) (fun _ s => some ([], s)) (fun o _ rest id s => match dopAF T ex id o s with
    | none => none
    | some d => match rest (Nat.succ id) (dputF s o.dst d) with
      | none => none
      | some (ds, s') => some (d :: ds, s')) os
theorem dregOpsF_eq (T : Table) (ex : Exec) (base : Nat) : ∀ (os : List AOper) (i : Nat) (s : St), dregOpsF T ex os (base + i) s = dregOps T ex base os i s
  | [], i, s => rfl
  | o :: os, i, s => by
    show (match dopAF T ex (base + i) o s with
      | none => none
      | some d => match dregOpsF T ex os (Nat.succ (base + i)) (dputF s o.dst d) with
        | none => none
        | some (ds, s') => some (d :: ds, s')) = _
    simp only [dregOps, dopAF_eq, dputF_eq]
    have : ∀ s', dregOpsF T ex os (Nat.succ (base + i)) s' = dregOps T ex base os (i + 1) s' := fun s' => dregOpsF_eq T ex base os (i + 1) s'
    simp only [this]
    rfl

noncomputable def stReg (T : Table) (ex : Exec) (ops : List AOper) (s : St) : Option (AEx × St) :=
  match regOpsF T ex ops s.nx { s with nx := s.nx + ops.length } with
  | none => none
  | some s' => some (.normal, s')
noncomputable def stDreg (T : Table) (ex : Exec) (ops : List AOper) (s : St) : Option (AEx × St) :=
  match dregOpsF T ex ops s.nx { s with nx := s.nx + ops.length } with
  | none => none
  | some (ds, s') => bif chkD ds ops ds then some (.normal, s') else none
def stSeq (ex : Exec) (a b : ACode) (s : St) : Option (AEx × St) := match ex a s with
  | some (.normal, s') => ex b s'
  | r => r
noncomputable def stCond (ex : Exec) (c : AO) (a b : ACode) (s : St) : Option (AEx × St) := match c.evF s.tm with
  | .v (.bool true) => ex a s
  | .v (.bool false) => ex b s
  | _ => none
def stBlock (ex : Exec) (id : Nat) (c : ACode) (s : St) : Option (AEx × St) := match ex c s with
  | some (.exit id', s') => bif Nat.beq id' id then some (.normal, s') else some (.exit id', s')
  | r => r
def stLoop (ex : Exec) (c : ACode) (s : St) : Option (AEx × St) := match ex c s with
  | some (.normal, s') => ex (.loop c) s'
  | r => r
def stScope (ex : Exec) (c cur : ACode) (s : St) : Option (AEx × St) := match ex cur s with
  | some (.goto l, s') => match findL c l with
    | none => some (.goto l, s')
    | some r => ex (.scope c r) s'
  | r => r
noncomputable def stepF (T : Table) (ex : Exec) (c : ACode) : St → Option (AEx × St) :=
  match c with
  | .skip => fun s => some (.normal, s)
  | .region ops => stReg T ex ops
  | .dregion ops => stDreg T ex ops
  | .seq a b => stSeq ex a b
  | .cond c a b => stCond ex c a b
  | .block id c => stBlock ex id c
  | .loop c => stLoop ex c
  | .exit id => fun s => some (.exit id, s)
  | .scope c cur => stScope ex c cur
  | .label _ => fun s => some (.normal, s)
  | .goto l => fun s => some (.goto l, s)
  | .ret => fun s => some (.ret, s)
theorem stepF_eq (T : Table) (ex : Exec) (c : ACode) (s : St) : stepF T ex c s = step T ex c s := by
  cases c with
  | region ops =>
    simp only [stepF, step, stReg]
    have := regOpsF_eq T ex s.nx ops 0
    simp only [Nat.add_zero] at this
    rw [this]
    cases regOps T ex s.nx ops 0 { s with nx := s.nx + ops.length } <;> rfl
  | dregion ops =>
    simp only [stepF, step, stDreg]
    have := dregOpsF_eq T ex s.nx ops 0
    simp only [Nat.add_zero] at this
    rw [this]
    rfl
  | cond c a b => simp only [stepF, step, stCond, evF_eq]; rfl
  | _ => rfl
noncomputable def execF (T : Table) (n : Nat) : Exec := Nat.rec (motive := fun _ => Exec) (fun _ _ => none) (fun _ ex => stepF T ex) n
theorem execF_eq (T : Table) : ∀ n, execF T n = exec T n
  | 0 => rfl
  | n + 1 => by
    show stepF T (execF T n) = step T (exec T n)
    rw [execF_eq T n]
    funext c s
    exact stepF_eq T _ c s
noncomputable def runAF (T : Table) (n : Nat) (g : Nat) (args : List AV) : Option AV :=
  match T g with
  | some (.code f _) => match runF (execF T n) f args [] 0 with
    | none => none
    | some (r, H, _) => frz false H depthA r
  | _ => none
theorem runAF_eq (T : Table) (n g : Nat) (args : List AV) : runAF T n g args = runA T n g args := by
  unfold runAF runA; rw [execF_eq]; rfl

noncomputable def ownAF (T : Table) (n : Nat) (g : Nat) (b : Bool) (args : List AV) : Option AV :=
  match T g with
  | some (.code f _) => match runF (execF T n) f args [] 0 with
    | none => none
    | some (r, H, _) => frz b H depthA r
  | _ => none
theorem ownAF_eq (T : Table) (n g : Nat) (b : Bool) (args : List AV) : ownAF T n g b args = ownA T n g b args := by
  unfold ownAF ownA; rw [execF_eq]; rfl

end Go.Am

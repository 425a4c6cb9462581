import Derived.Test.YtgkokjkoifdbnaaGreatCall
import Derived.Test.YtgkokjkoifdbnaaGreatDraw2
/- From the loaded program's code to the interpreter's: regions, code, functions. -/
namespace Go.Am
set_option autoImplicit false
set_option linter.unusedSimpArgs false
set_option linter.unusedVariables false

def compGuard (ops : Array Oper) : Option (Nat × Bool) → Option (Option (Nat × Bool))
  | none => some none
  | some (j, want) => match (ops[j]?).bind (·.dst) with
    | none => none
    | some d => some (some (d, want))
def compOper (P : Program) (ops : Array Oper) (o : Oper) : Option AOper :=
  match compGuard ops o.guard with
  | some g => some { dst := o.dst, op := (compOp P o.op).getD .bad, guard := g }
  | none => none

def bitsOf (acc : List Nat) : List Edge → Nat
  | [] => 0
  | e :: r => bif Region.binds .any e then (bitsOf acc r ||| 2 ^ e.on) ||| acc.getD e.on 0 else bitsOf acc r
def befs : List Oper → List Nat → List Nat
  | [], acc => acc
  | o :: os, acc => befs os (acc ++ [bitsOf acc o.after.toList])
def edgesOK : List Oper → Nat → Bool
  | [], _ => true
  | o :: os, i => (o.after.toList.all fun e => !Region.binds .any e || Nat.blt e.on i) && edgesOK os (i + 1)

def meets (T : Table) (x y : AOp) : Bool := ((x.looks || x.makes T) && y.makes T) || (x.makes T && (y.looks || y.makes T))
def unOf (T : Table) (b : Nat) (o : AOper) : List AOper → Nat → List Nat
  | [], _ => []
  | p :: ps, k => bif !b.testBit k && meets T o.op p.op then k :: unOf T b o ps (k + 1) else unOf T b o ps (k + 1)
def dstOut (p o : AOper) : Bool := match p.dst with
  | none => true
  | some k => !memN k o.tmps && (match o.dst with
    | none => true
    | some k' => !Nat.beq k' k)
def apartT (T : Table) (o p : AOper) : Bool := dstOut p o && dstOut o p && !(o.op.numbers T && p.op.numbers T)
def fitD (T : Table) (b : Nat) (o : AOper) : List AOper → Nat → Bool
  | [], _ => true
  | p :: ps, k => (b.testBit k || apartT T o p) && fitD T b o ps (k + 1)
def compD (T : Table) : List Nat → List AOper → List AOper → Option (List AOper)
  | _, _, [] => some []
  | [], _, _ :: _ => none
  | b :: bs, done, o :: os => bif fitD T b o done 0 then
      match compD T bs (done ++ [o]) os with
      | none => none
      | some r => some ({ o with un := unOf T b o done 0 } :: r)
    else none
def compRegion (P : Program) (T : Table) (ops : Array Oper) (draw : Bool) : Option ACode :=
  match mapO (compOper P ops) ops.toList with
  | none => none
  | some as => bif draw then (bif edgesOK ops.toList 0 then (compD T (befs ops.toList []) [] as).map .dregion else none) else some (.region as)
def compC (P : Program) (T : Table) : Code → Option ACode
  | .skip => some .skip
  | .region _ ops draw => compRegion P T ops draw
  | .seq a b => match compC P T a, compC P T b with
    | some x, some y => some (.seq x y)
    | _, _ => none
  | .cond c a b => match compO c, compC P T a, compC P T b with
    | some z, some x, some y => some (.cond z x y)
    | _, _, _ => none
  | .block id c => (compC P T c).map (.block id ·)
  | .loop c => (compC P T c).map .loop
  | .exit id => some (.exit id)
  | .scope c => (compC P T c).map fun x => .scope x x
  | .label l => some (.label l)
  | .goto l => some (.goto l)
  | .ret => some .ret
  | _ => none
/-- A function's code, own or not. -/
def compF (P : Program) (T : Table) (own : Bool) (g : Nat) : Option AFun :=
  match P.funcs[g]? with
  | none => none
  | some fn => match fn.body with
    | none => none
    | some c => match compC P T c, compRess P fn.results with
      | some b, some r => bif (fn.name == "runtime.NumGoroutine") then none else some ⟨own, fn.ntmps, r, b⟩
      | _, _ => none

theorem compF_ok {P : Program} {T : Table} {own : Bool} {g : Nat} {f : AFun} (h : compF P T own g = some f) : FunOK P (compC P T) g f := by
  unfold compF at h
  split at h
  · simp at h
  · rename_i fn hfn
    split at h
    · simp at h
    · rename_i c hc
      split at h
      · rename_i b r hb hr
        cases hn : (fn.name == "runtime.NumGoroutine") with
        | true => simp [hn] at h
        | false =>
          simp only [hn, cond_false, Option.some.injEq] at h
          subst h
          exact ⟨fn, c, hfn, hn, hc, hb, rfl, hr⟩
      · simp at h

theorem compOper_inv {P : Program} {ops : Array Oper} {o : Oper} {ao : AOper} (h : compOper P ops o = some ao) : (compOp P o.op = some ao.op ∨ ao.op = .bad) ∧ ao.dst = o.dst ∧ compGuard ops o.guard = some ao.guard := by
  unfold compOper at h
  split at h
  · rename_i g h2
    simp only [Option.some.injEq] at h; subst h
    refine ⟨?_, rfl, h2⟩
    cases compOp P o.op with
    | none => exact .inr rfl
    | some a => exact .inl rfl
  · simp at h

theorem unbad {P : Program} {o : Oper} {ao : AOp} (h : compOp P o.op = some ao ∨ ao = .bad) {tm : TM} {id : Nat} {H : Heap} {x : Out} (hx : aop ao tm id H = some x) : compOp P o.op = some ao := by
  rcases h with h | rfl
  · exact h
  · simp [aop] at hx

theorem wanted_ok {P : Program} {ops : Array Oper} {o : Oper} {ao : AOper} (h : compOper P ops o = some ao) {Γ : Ctx} {tm : TM} {a : Act} (ht : TR Γ tm a) : Region.wanted o (yielded ops a.tmps) = goes tm ao := by
  obtain ⟨_, _, hg⟩ := compOper_inv h
  unfold Region.wanted goes
  cases hgo : o.guard with
  | none =>
    simp only [hgo, compGuard, Option.some.injEq] at hg
    rw [← hg]
  | some p =>
    obtain ⟨j, want⟩ := p
    simp only [hgo, compGuard] at hg
    split at hg
    · simp at hg
    · rename_i d hd
      simp only [Option.some.injEq] at hg
      rw [← hg]
      simp only [yielded, hd, Option.bind_some]
      have hr := ht.get d
      have hgd : a.tmps.getD d undef = (a.tmps[d]?).getD undef := by simp [Array.getD_eq_getD_getElem?]
      rw [hgd] at hr
      generalize tget tm d = x at hr
      have key : ∀ x : AV, (∀ b, x ≠ .v (.bool b)) → (match x with
          | .v (.bool b) => b == want
          | _ => false) = false := by
        intro x hx
        split
        · rename_i b; exact absurd rfl (hx b)
        · rfl
      cases hx : a.tmps[d]? with
      | none =>
        rw [hx] at hr
        simp only [Option.getD_none] at hr
        have : ∀ b, x ≠ .v (.bool b) := by
          rintro b rfl
          have := hr.v_inv
          simp [undef] at this
        exact (key x this).symm
      | some v =>
        rw [hx] at hr
        simp only [Option.getD_some] at hr
        cases v with
        | bool b =>
          have : x = .v (.bool b) := by
            cases hr with
            | tree h => cases h; rfl
          subst this
          cases b <;> cases want <;> rfl
        | _ =>
          have : ∀ b, x ≠ .v (.bool b) := by
            rintro b rfl
            have := hr.v_inv
            simp at this
          exact (key x this).symm

theorem put_ok {Γ : Ctx} {tm : TM} {a : Act} (ht : TR Γ tm a) (dst : Option Nat) {r : AV} {v : Value} (hr : RL Γ r v) : TR Γ (match dst with
    | none => tm
    | some k => tset tm k r) (a.put dst v) := by
  cases dst with
  | none => exact ht
  | some k =>
    exact ht.set hr a.defers
theorem put_defers (a : Act) (dst : Option Nat) (v : Value) : (a.put dst v).defers = a.defers := by cases dst <;> rfl

/-! ### Order -/
theorem befs_spec : ∀ {os : List Oper} {acc : List Nat}, ∃ r, befs os acc = acc ++ r ∧ r.length = os.length ∧ ∀ i o, os[i]? = some o → r[i]? = some (bitsOf ((befs os acc).take (acc.length + i)) o.after.toList)
  | [], acc => ⟨[], by simp [befs], rfl, fun i o h => by simp at h⟩
  | o :: os, acc => by
    obtain ⟨r, h1, h2, h3⟩ := befs_spec (os := os) (acc := acc ++ [bitsOf acc o.after.toList])
    refine ⟨bitsOf acc o.after.toList :: r, by simp [befs, h1], by simp [h2], fun i o' ho => ?_⟩
    cases i with
    | zero =>
      simp only [List.getElem?_cons_zero, Option.some.injEq] at ho
      subst ho
      simp [befs, h1]
    | succ i =>
      have := h3 i o' (by simpa using ho)
      simp only [List.getElem?_cons_succ, befs]
      rw [this]
      simp only [List.length_append, List.length_cons, List.length_nil]
      rw [show acc.length + (0 + 1) + i = acc.length + (i + 1) by omega]

theorem bitsOf_test {acc : List Nat} : ∀ {es : List Edge} {j : Nat}, (bitsOf acc es).testBit j = true → ∃ e ∈ es, Region.binds .any e = true ∧ (j = e.on ∨ (acc.getD e.on 0).testBit j = true)
  | [], j, h => by simp [bitsOf] at h
  | e :: r, j, h => by
    simp only [bitsOf] at h
    cases hb : Region.binds .any e with
    | false =>
      simp only [hb, cond_false] at h
      obtain ⟨e', h1, h2⟩ := bitsOf_test h
      exact ⟨e', List.mem_cons_of_mem _ h1, h2⟩
    | true =>
      simp only [hb, cond_true, Nat.testBit_or, Bool.or_eq_true] at h
      rcases h with (h | h) | h
      · obtain ⟨e', h1, h2⟩ := bitsOf_test h
        exact ⟨e', List.mem_cons_of_mem _ h1, h2⟩
      · refine ⟨e, by simp, hb, .inl ?_⟩
        rw [Nat.testBit_two_pow] at h
        simpa [eq_comm] using h
      · exact ⟨e, by simp, hb, .inr h⟩

theorem edgesOK_iff : ∀ {os : List Oper} {k : Nat}, edgesOK os k = true → ∀ i o, os[i]? = some o → ∀ e ∈ o.after.toList, Region.binds .any e = true → e.on < k + i
  | [], k, h, i, o, ho => by simp at ho
  | o' :: os, k, h, i, o, ho => by
    simp only [edgesOK, Bool.and_eq_true] at h
    cases i with
    | zero =>
      simp only [List.getElem?_cons_zero, Option.some.injEq] at ho
      subst ho
      intro e he hb
      have := List.all_eq_true.1 h.1 e he
      simp only [hb, Bool.not_true, Bool.false_or] at this
      have : e.on < k := by simpa [Nat.blt_eq] using this
      omega
    | succ i =>
      intro e he hb
      have := edgesOK_iff h.2 i o (by simpa using ho) e he hb
      omega

/-- What is ahead of an operation is in every set that is closed under the edges. -/
theorem ahead_closed {os : List Oper} (hE : edgesOK os 0 = true) {D : Nat → Prop} (hD : ∀ i o, os[i]? = some o → D i → ∀ e ∈ o.after.toList, Region.binds .any e = true → D e.on) :
    ∀ (i : Nat) (o : Oper), os[i]? = some o → (∀ e ∈ o.after.toList, Region.binds .any e = true → D e.on) → ∀ j, ((befs os []).getD i 0).testBit j = true → D j ∧ j < i := by
  obtain ⟨r, h1, h2, h3⟩ := befs_spec (os := os) (acc := [])
  simp only [List.nil_append, List.length_nil, Nat.zero_add] at h1 h3
  intro i
  induction i using Nat.strongRecOn with
  | _ i ih =>
    intro o ho he j hj
    have hi := h3 i o ho
    rw [← h1] at hi
    rw [List.getD_eq_getElem?_getD, hi, Option.getD_some] at hj
    obtain ⟨e, e1, e2, e3⟩ := bitsOf_test hj
    have hlt : e.on < i := by simpa using edgesOK_iff hE i o ho e e1 e2
    rcases e3 with rfl | e3
    · exact ⟨he e e1 e2, hlt⟩
    · have hk : (((befs os []).take i).getD e.on 0) = (befs os []).getD e.on 0 := by
        simp [List.getD_eq_getElem?_getD, List.getElem?_take, hlt]
      rw [hk] at e3
      have hlen : e.on < os.length := by
        have := (List.getElem?_eq_some_iff.1 ho).1
        omega
      obtain ⟨k1, k2⟩ := ih e.on hlt os[e.on] (by simp [hlen]) (fun e' h1' h2' => hD e.on os[e.on] (by simp [hlen]) (he e e1 e2) e' h1' h2') j e3
      exact ⟨k1, by omega⟩

theorem unOf_mem {T : Table} {b : Nat} {o : AOper} : ∀ {ps : List AOper} {k : Nat} {j : Nat} {p : AOper}, ps[j]? = some p → b.testBit (k + j) = false → meets T o.op p.op = true → k + j ∈ unOf T b o ps k
  | [], k, j, p, h, _, _ => by simp at h
  | q :: ps, k, 0, p, h, hb, hm => by
    simp only [List.getElem?_cons_zero, Option.some.injEq] at h
    subst h
    simp only [Nat.add_zero] at hb
    simp [unOf, hb, hm]
  | q :: ps, k, j + 1, p, h, hb, hm => by
    have := unOf_mem (T := T) (b := b) (o := o) (ps := ps) (k := k + 1) (j := j) (p := p) (by simpa using h) (by rwa [show k + 1 + j = k + (j + 1) by omega]) hm
    rw [show k + 1 + j = k + (j + 1) by omega] at this
    simp only [unOf]
    cases (!b.testBit k && meets T o.op q.op) <;> simp [this]
theorem fitD_mem {T : Table} {b : Nat} {o : AOper} : ∀ {ps : List AOper} {k : Nat} {j : Nat} {p : AOper}, fitD T b o ps k = true → ps[j]? = some p → b.testBit (k + j) = false → apartT T o p = true
  | [], k, j, p, _, h, _ => by simp at h
  | q :: ps, k, 0, p, hf, h, hb => by
    simp only [List.getElem?_cons_zero, Option.some.injEq] at h
    subst h
    simp only [Nat.add_zero] at hb
    simp only [fitD, hb, Bool.false_or, Bool.and_eq_true] at hf
    exact hf.1
  | q :: ps, k, j + 1, p, hf, h, hb => by
    simp only [fitD, Bool.and_eq_true] at hf
    exact fitD_mem hf.2 (by simpa using h) (by rwa [show k + 1 + j = k + (j + 1) by omega])
theorem compD_spec {T : Table} : ∀ {bs : List Nat} {done os as : List AOper}, compD T bs done os = some as → as.length = os.length ∧ ∀ i o, os[i]? = some o →
    as[i]? = some { o with un := unOf T (bs.getD i 0) o (done ++ os.take i) 0 } ∧ fitD T (bs.getD i 0) o (done ++ os.take i) 0 = true
  | bs, done, [], as, h => by
    have : as = [] := by cases bs <;> simp [compD] at h <;> exact h
    subst this
    exact ⟨rfl, fun i o h => by simp at h⟩
  | [], done, _ :: _, as, h => by simp [compD] at h
  | b :: bs, done, o :: os, as, h => by
    simp only [compD] at h
    cases hf : fitD T b o done 0 with
    | false => simp [hf] at h
    | true =>
      simp only [hf, cond_true] at h
      cases hr : compD T bs (done ++ [o]) os with
      | none => simp [hr] at h
      | some r =>
        simp only [hr, Option.some.injEq] at h
        subst h
        obtain ⟨k1, k2⟩ := compD_spec hr
        refine ⟨by simp [k1], fun i o' ho => ?_⟩
        cases i with
        | zero =>
          simp only [List.getElem?_cons_zero, Option.some.injEq] at ho
          subst ho
          simp [hf]
        | succ i =>
          have := k2 i o' (by simpa using ho)
          simpa [List.append_assoc] using this

end Go.Am

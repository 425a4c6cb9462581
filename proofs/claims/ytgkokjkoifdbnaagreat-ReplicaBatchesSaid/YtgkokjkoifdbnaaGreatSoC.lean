import Derived.Test.YtgkokjkoifdbnaaGreatSoB
import Derived.Test.YtgkokjkoifdbnaaGreatSoA
import Derived.Tactics
import Derived.LoopN
import Derived.Scope
import Derived.Below
import Derived.WideShapes
/- Calls: what the table's functions do; what a function hands back. -/
namespace Go.Am
set_option autoImplicit false
set_option linter.unusedSimpArgs false
set_option linter.unusedVariables false

/-- What a call of function g comes to. -/
def CallDoes (P : Program) (g : Nat) (vs : Array Value) (Γ : Ctx) (id nx nx' : Nat) (r : AV) (H' : Heap) : Prop :=
  ((callFunc g vs).run P Γ.w = .ok (.enter g vs) Γ.w ∧ Ret P g vs Γ id nx nx' r H') ∨
  (∃ v Γ', (callFunc g vs).run P Γ.w = .ok (.value v) Γ'.w ∧ Back Γ id nx nx' r H' v Γ')

def PrimOK (P : Program) (g : Nat) (p : Nat → List AV → Heap → Option (AV × Heap)) : Prop :=
  ∀ (Γ : Ctx) (args : List AV) (vs : Array Value) (id nx : Nat) (r : AV) (H' : Heap), p id args Γ.H = some (r, H') → HRel Γ → ¬ Γ.U id → (∀ c, Γ.U c → c < nx) → All2 (RL Γ) args vs.toList →
    CallDoes P g vs Γ id nx nx r H'

def compRes (P : Program) : ResultVar → Option ARes
  | .tmp t => some (.t t)
  | .cell a t => match P.underlying t, P.info? t with
    | some d, some i => some (.cell a (aggD d) i.size)
    | _, _ => none

def resSem (tmps : Array Value) : ResultVar → Sem Value
  | .tmp t => pure (tmps.getD t undef)
  | .cell c t => do loadVar t (← asAddr (tmps.getD c undef))

theorem compRes_ok {P : Program} {Γ : Ctx} (hR : HRel Γ) {tm : TM} {a : Act} (ht : TR Γ tm a) {x : ResultVar} {y : ARes} (hc : compRes P x = some y) {r : AV} (h : resA tm Γ.H y = some r) :
    ∃ v, (resSem a.tmps x).run P Γ.w = .ok v Γ.w ∧ RL Γ r v := by
  cases x with
  | tmp t =>
    simp only [compRes, Option.some.injEq] at hc; subst hc
    simp only [resA, Option.some.injEq] at h; subst h
    exact ⟨_, rfl, ht.get t⟩
  | cell c t =>
    simp only [compRes] at hc
    split at hc
    · rename_i d i hu hi
      simp only [Option.some.injEq] at hc; subst hc
      simp only [resA] at h
      have hr := ht.get c
      obtain ⟨v, h1, h2⟩ := load_same (P := P) hR hu hi hr h
      have key : ∃ ad, a.tmps.getD c undef = .pointer (some ad) := by
        generalize htm : tget tm c = x at hr h
        cases x with
        | ptr _ off => obtain ⟨b, e, _⟩ := hr.ptr_inv; exact ⟨_, e⟩
        | eptr cells => obtain ⟨b, off, f, e, _⟩ := hr.eptr_inv.eptr_inv; exact ⟨_, e⟩
        | _ => simp [loadA] at h
      obtain ⟨ad, e⟩ := key
      refine ⟨v, ?_, h2⟩
      rw [e] at h1
      simp only [resSem, e]
      exact h1
    · simp at hc

def compRess (P : Program) (rs : Array ResultVar) : Option (List ARes) := mapO (compRes P) rs.toList

theorem ress_ok {P : Program} {Γ : Ctx} (hR : HRel Γ) {tm : TM} {a : Act} (ht : TR Γ tm a) : ∀ {xs : List ResultVar} {ys : List ARes} {rs : List AV}, mapO (compRes P) xs = some ys → mapO (resA tm Γ.H) ys = some rs →
    ∃ vs : List Value, (xs.mapM (resSem a.tmps)).run P Γ.w = .ok vs Γ.w ∧ All2 (RL Γ) rs vs
  | [], ys, rs, h1, h2 => by
    simp only [mapO, Option.some.injEq] at h1; subst h1
    simp only [mapO, Option.some.injEq] at h2; subst h2
    exact ⟨[], rfl, .nil _⟩
  | x :: xs, ys, rs, h1, h2 => by
    simp only [mapO] at h1
    cases hx : compRes P x with
    | none => simp [hx] at h1
    | some y =>
      cases hxs : mapO (compRes P) xs with
      | none => simp [hx, hxs] at h1
      | some yt =>
        simp only [hx, hxs, Option.some.injEq] at h1; subst h1
        simp only [mapO] at h2
        cases hy : resA tm Γ.H y with
        | none => simp [hy] at h2
        | some r =>
          cases hys : mapO (resA tm Γ.H) yt with
          | none => simp [hy, hys] at h2
          | some rt =>
            simp only [hy, hys, Option.some.injEq] at h2; subst h2
            obtain ⟨v, e1, r1⟩ := compRes_ok hR ht hx hy
            obtain ⟨vs, e2, r2⟩ := ress_ok hR ht hxs hys
            refine ⟨v :: vs, ?_, .cons r1 r2⟩
            simp [List.mapM_cons, e1, e2]

theorem results_ok {P : Program} {Γ : Ctx} (hR : HRel Γ) {tm : TM} {a : Act} (ht : TR Γ tm a) {fn : Func} {ys : List ARes} (hc : compRess P fn.results = some ys) {r : AV} (h : resultsA tm Γ.H ys = some r) :
    ∃ v, (results fn a.tmps).run P Γ.w = .ok v Γ.w ∧ RL Γ r v := by
  have e : results fn a.tmps = (do let vs ← fn.results.mapM (resSem a.tmps); pure (if h : vs.size = 1 then vs[0] else .tuple vs)) := by
    unfold results
    congr 1
  rw [e, Array.mapM_eq_mapM_toList]
  simp only [resultsA] at h
  cases hm : mapO (resA tm Γ.H) ys with
  | none => simp [hm] at h
  | some rs =>
    obtain ⟨vs, e1, r1⟩ := ress_ok hR ht hc hm
    simp only [hm] at h
    match rs, vs, r1, h with
    | [x], vs, r1, h =>
      obtain ⟨y, ys, rfl, hy, hys⟩ := r1.uncons
      have : ys = [] := List.eq_nil_of_length_eq_zero hys.1.symm
      subst this
      simp only [Option.some.injEq] at h; subst h
      exact ⟨y, by simp [e1], hy⟩
    | [], vs, r1, h =>
      have : vs = [] := List.eq_nil_of_length_eq_zero r1.1.symm
      subst this
      simp only [Option.some.injEq] at h; subst h
      exact ⟨.tuple #[], by simp [e1], .tup _ _ rfl (fun j a x ha => by simp at ha)⟩
    | x1 :: x2 :: rs, vs, r1, h =>
      simp only [Option.some.injEq] at h; subst h
      have hl := r1.1
      refine ⟨.tuple vs.toArray, ?_, .tup _ _ (by simpa using hl) (fun j a x ha hx => r1.2 j a x ha (by simpa using hx))⟩
      have : ¬ vs.length = 1 := by simp at hl; omega
      simp [e1, this]

/-! ### The interpreter's word on code -/
def exOf : AEx → Exit
  | .normal => .normal
  | .exit id => .exit id
  | .goto l => .goto l
  | .ret => .ret

/-- A state of the interpreter and one of the machine. -/
structure Now (Γ : Ctx) (s : St) (a : Act) : Prop where
  H : Γ.H = s.H
  ok : HRel Γ
  tr : TR Γ s.tm a
  lt : ∀ c, Γ.U c → c < s.nx
  df : a.defers = []

structure Goes (Γ : Ctx) (s s' : St) (Γ' : Ctx) (a' : Act) : Prop where
  now : Now Γ' s' a'
  ev : Ev Γ Γ'
  nx : s.nx ≤ s'.nx
  U : ∀ c, Γ'.U c → Γ.U c ∨ s.nx ≤ c

theorem Goes.refl {Γ : Ctx} {s : St} {a : Act} (h : Now Γ s a) : Goes Γ s s Γ a := ⟨h, Ev.refl Γ, Nat.le_refl _, fun _ h => .inl h⟩
theorem Goes.trans {Γ Γ' Γ'' : Ctx} {s s' s'' : St} {a' a'' : Act} (h : Goes Γ s s' Γ' a') (k : Goes Γ' s' s'' Γ'' a'') : Goes Γ s s'' Γ'' a'' :=
  ⟨k.now, h.ev.trans k.ev, Nat.le_trans h.nx k.nx, fun c hc => (k.U c hc).elim (fun hc => h.U c hc) (fun hc => .inr (Nat.le_trans h.nx hc))⟩

def Post (Γ : Ctx) (s : St) (e : AEx) (s' : St) : Exit → Act → World → Prop := fun e' a' w' => e' = exOf e ∧ ∃ Γ', Γ'.w = w' ∧ Goes Γ s s' Γ' a'

/-- How functions are looked up. -/
structure FunOK (P : Program) (comp : Code → Option ACode) (g : Nat) (f : AFun) : Prop where
  ok : ∃ fn c, P.funcs[g]? = some fn ∧ (fn.name == "runtime.NumGoroutine") = false ∧ fn.body = some c ∧ comp c = some f.body ∧ f.ntmps = fn.ntmps ∧ compRess P fn.results = some f.results

/-- Code does what the interpreter says of it. -/
def WpOK (P : Program) (comp : Code → Option ACode) (ex : Exec) : Prop :=
  ∀ (c : Code) (c' : ACode) (s : St) (e : AEx) (s' : St), comp c = some c' → ex c' s = some (e, s') → ∀ (Γ : Ctx) (a : Act), Now Γ s a → c.wp P (Post Γ s e s') a Γ.w

theorem run_ok {P : Program} {comp : Code → Option ACode} {ex : Exec} (hex : WpOK P comp ex) {g : Nat} {f : AFun} (hf : FunOK P comp g f) : RunOK P g f ex := by
  obtain ⟨fn, c, h1, h2, h3, h4, h5, h6⟩ := hf.ok
  intro args H nx r H' nx' h Γ vs hH hR hU hargs id
  unfold runF at h
  cases hck : (Nat.ble args.length f.ntmps && Nat.ble f.ntmps 4096) with
  | false => simp [hck] at h
  | true =>
  simp only [hck, cond_true] at h
  simp only [Bool.and_eq_true] at hck
  have hck1 := Nat.le_of_ble_eq_true hck.1
  have hck2 := Nat.le_of_ble_eq_true hck.2
  have hnow : Now Γ ⟨padA args f.ntmps, H, nx⟩ { tmps := vs ++ Array.replicate (fn.ntmps - vs.size) undef, defers := [] } := by
    refine ⟨hH, hR, ?_, hU, rfl⟩
    rw [← h5]
    exact init_ok hargs hck1 hck2 []
  have key : ∀ e s, ex f.body ⟨padA args f.ntmps, H, nx⟩ = some (e, s) → (e = .normal ∨ e = .ret) → resultsA s.tm s.H f.results = some r → s.H = H' → s.nx = nx' → Ret P g vs Γ id nx nx' r H' := by
    intro e s he hee hr hsH hsn
    refine calls_of_wp h1 h3 (wp_mono (hex c f.body _ e s h4 he Γ _ hnow) ?_)
    rintro e' a' w' ⟨rfl, Γ', rfl, hg⟩
    have hr' : resultsA s.tm Γ'.H f.results = some r := by rw [hg.now.H]; exact hr
    obtain ⟨v, k1, k2⟩ := results_ok hg.now.ok hg.now.tr h6 hr'
    have hb : Back Γ id nx nx' r H' v Γ' :=
      ⟨hg.now.H.trans hsH, hg.ev, hg.now.ok, k2, fun c hc => (hg.U c hc).elim .inl (fun h => .inr (.inr h)), fun c hc => .inr (hsn ▸ hg.now.lt c hc), hsn ▸ hg.nx⟩
    rcases hee with rfl | rfl <;> exact ⟨hg.now.df, v, k1, v, Γ', rfl, rfl, hb⟩
  split at h
  · rename_i s he
    cases hr : resultsA s.tm s.H f.results with
    | none => simp [hr] at h
    | some x =>
      simp only [hr, Option.some.injEq, Prod.mk.injEq] at h
      exact key _ s he (.inl rfl) (hr.trans (congrArg some h.1)) h.2.1 h.2.2
  · rename_i s he
    cases hr : resultsA s.tm s.H f.results with
    | none => simp [hr] at h
    | some x =>
      simp only [hr, Option.some.injEq, Prod.mk.injEq] at h
      exact key _ s he (.inr rfl) (hr.trans (congrArg some h.1)) h.2.1 h.2.2
  · simp at h

structure TabOK (P : Program) (comp : Code → Option ACode) (T : Table) : Prop where
  code : ∀ g f m, T g = some (.code f m) → FunOK P comp g f
  memo : ∀ g f m, T g = some (.code f m) → ∀ b args r, m b args = some r → ∃ ex r0 H2 n2, WpOK P comp ex ∧ runF ex f args [] 0 = some (r0, H2, n2) ∧ frz b H2 depthA r0 = some r
  prim : ∀ g p, T g = some (.prim p) → PrimOK P g p

theorem callF_ok {P : Program} {comp : Code → Option ACode} {T : Table} (hT : TabOK P comp T) {ex : Exec} (hex : WpOK P comp ex) {Γ : Ctx} (hR : HRel Γ) {id nx : Nat} (hid : ¬ Γ.U id) (hU : ∀ c, Γ.U c → c < nx)
    {g : Nat} {args : List AV} {vs : Array Value} (hargs : All2 (RL Γ) args vs.toList) {r : AV} {H' : Heap} {nx' : Nat} (h : callF T ex id g args Γ.H nx = some (r, H', nx')) : CallDoes P g vs Γ id nx nx' r H' := by
  unfold callF at h
  split at h
  · simp at h
  · rename_i p hp
    split at h
    · simp at h
    · rename_i r2 H2 e
      simp only [Option.some.injEq, Prod.mk.injEq] at h
      obtain ⟨rfl, rfl, rfl⟩ := h
      exact hT.prim g p hp Γ args vs id nx _ _ e hR hid hU hargs
  · rename_i f m hf
    have hrun := run_ok hex (hT.code g f m hf)
    have henter : (callFunc g vs).run P Γ.w = .ok (.enter g vs) Γ.w := by
      obtain ⟨fn, c, h1, h2, h3, _⟩ := (hT.code g f m hf).ok
      have h2' : ¬ fn.name = "runtime.NumGoroutine" := by simpa using h2
      simp [callFunc, h1, h2', h3]
    refine .inl ⟨henter, ?_⟩
    cases ho : f.own with
    | true =>
      simp only [ho, cond_true] at h
      split at h
      · simp at h
      · rename_i args' ha
        split at h
        · rename_i r' hm
          simp only [Option.some.injEq, Prod.mk.injEq] at h
          obtain ⟨rfl, rfl, rfl⟩ := h
          obtain ⟨ex', r0, H2, n2, k1, k2, k3⟩ := hT.memo g f m hf _ args' _ hm
          exact own_ok (run_ok k1 (hT.code g f m hf)) hR hU hargs ha k2 k3 id
        · split at h
          · simp at h
          · rename_i r2 H2 n2 hr2
            split at h
            · simp at h
            · rename_i r' hr'
              simp only [Option.some.injEq, Prod.mk.injEq] at h
              obtain ⟨rfl, rfl, rfl⟩ := h
              exact own_ok hrun hR hU hargs ha hr2 hr' id
    | false =>
      simp only [ho, cond_false] at h
      split at h
      · simp at h
      · rename_i r2 H2 n2 hr2
        simp only [Option.some.injEq, Prod.mk.injEq] at h
        obtain ⟨rfl, rfl, rfl⟩ := h
        exact in_ok hrun hR hU hargs _ _ hr2 id

/-! ### One operation -/
theorem aop_call {ao : AOp} {tm : TM} {id : Nat} {H : Heap} {g : Nat} {args : List AV} (h : aop ao tm id H = some (.call g args)) :
    (∃ as, ao = .call g as ∧ args = as.map (·.ev tm)) ∨ ∃ f as caps, ao = .callv f as ∧ f.ev tm = .fn g caps ∧ args = as.map (·.ev tm) ++ caps := by
  cases ao with
  | call g' as => simp only [aop, Option.some.injEq, Out.call.injEq] at h; exact .inl ⟨as, by rw [h.1], h.2.symm⟩
  | callv f as =>
    simp only [aop] at h
    split at h
    · rename_i g' caps e
      simp only [Option.some.injEq, Out.call.injEq] at h
      exact .inr ⟨f, as, caps, rfl, by rw [e, h.1], h.2.symm⟩
    · simp at h
  | _ =>
    exfalso
    simp only [aop, cond_eq_ite] at h
    first
      | exact out_call h
      | (simp at h; done)
      | (repeat' (split at h)) <;> first | exact out_call h | (simp at h; done)

def AOp.isCall : AOp → Bool
  | .call _ _ => true
  | .callv _ _ => true
  | _ => false
theorem isCall_bin {P : Program} {b : BinOp} {t : TypeId} {x y : Operand} {ao : AOp} (h : compBin P b t x y = some ao) : ao.isCall = false := by
  simp only [compBin, cond_eq_ite] at h
  (repeat' (split at h)) <;> first | (simp at h; done) | (simp only [Option.some.injEq] at h; subst h; rfl)
theorem isCall_conv {P : Program} {s d : TypeId} {x : Operand} {ao : AOp} (h : compConv P s d x = some ao) : ao.isCall = false := by
  simp only [compConv, cond_eq_ite] at h
  (repeat' (split at h)) <;> first | (simp at h; done) | (simp only [Option.some.injEq] at h; subst h; rfl)
theorem isCall_builtin {P : Program} {b : Builtin} {xs : Array Operand} {ts : Array TypeId} {ao : AOp} (h : compBuiltin P b xs ts = some ao) : ao.isCall = false := by
  simp only [compBuiltin, cond_eq_ite] at h
  (repeat' (split at h)) <;> first | (simp at h; done) | (simp only [Option.some.injEq] at h; subst h; rfl) | (obtain ⟨_, _, rfl⟩ := Option.map_eq_some_iff.1 h; rfl)
theorem isCall_op {P : Program} {op : Op} {ao : AOp} (hn : ∀ c, op ≠ .call c) (h : compOp P op = some ao) : ao.isCall = false := by
  cases op with
  | call c => exact absurd rfl (hn c)
  | binOp b t x y u => exact isCall_bin h
  | convert s d x => exact isCall_conv h
  | makeFunc fn first caps =>
    cases fn with
    | func g =>
      simp only [compOp, cond_eq_ite] at h
      split at h
      · obtain ⟨_, _, rfl⟩ := Option.map_eq_some_iff.1 h; rfl
      · simp at h
    | _ => simp [compOp] at h
  | _ =>
    simp only [compOp, cond_eq_ite] at h
    (repeat' (split at h)) <;> first | (simp at h; done) | (simp only [Option.some.injEq] at h; subst h; rfl) | (obtain ⟨_, _, rfl⟩ := Option.map_eq_some_iff.1 h; rfl)

theorem comp_call {P : Program} {op : Op} {ao : AOp} (hc : compOp P op = some ao) : (∀ g as, ao = .call g as → ∃ c, op = .call c ∧ c.callee = .value (.func g) ∧ compOs c.args = some as) ∧
    (∀ f as, ao = .callv f as → ∃ c x, op = .call c ∧ c.callee = .value x ∧ compO x = some f ∧ compOs c.args = some as) := by
  cases op with
  | call c =>
    simp only [compOp] at hc
    split at hc
    · rename_i b hcal
      have := isCall_builtin hc
      exact ⟨fun g as e => by subst e; simp [AOp.isCall] at this, fun f as e => by subst e; simp [AOp.isCall] at this⟩
    · rename_i f hcal
      split at hc
      · rename_i g as ha
        simp only [Option.some.injEq] at hc; subst hc
        refine ⟨fun g' as' e => ?_, fun f as' e => by simp at e⟩
        injection e with e1 e2; subst e1; subst e2
        exact ⟨c, rfl, hcal, ha⟩
      · rename_i ha hf
        simp only [Option.some.injEq] at hc; subst hc
        refine ⟨fun g' as' e => by simp at e, fun f2 as' e => ?_⟩
        injection e with e1 e2; subst e1; subst e2
        exact ⟨c, _, rfl, hcal, hf, ha⟩
      · simp at hc
    · simp at hc
  | _ =>
    have := isCall_op (by intro c; simp) hc
    exact ⟨fun g as e => by subst e; simp [AOp.isCall] at this, fun f as e => by subst e; simp [AOp.isCall] at this⟩

theorem call_args {P : Program} {Γ : Ctx} (hR : HRel Γ) {id : Nat} {tm : TM} {a : Act} (ht : TR Γ tm a) {o : Oper} {ao : AOp} (hc : compOp P o.op = some ao)
    {g : Nat} {args : List AV} (h : aop ao tm id Γ.H = some (.call g args)) : ∃ vs : Array Value, All2 (RL Γ) args vs.toList ∧ (execOp a.eval o).run P Γ.w = (callFunc g vs).run P Γ.w := by
  obtain ⟨dst, op, ty, pos, after, guard⟩ := o
  rcases aop_call h with ⟨as, rfl, rfl⟩ | ⟨f, as, caps, rfl, hf, rfl⟩
  · obtain ⟨c, rfl, hcal, ha⟩ := (comp_call hc).1 g as rfl
    refine ⟨c.args.map a.eval, compOs_ok ht ha, ?_⟩
    obtain ⟨cal, xs, ats⟩ := c
    simp only at hcal; subst hcal
    have e := execOp_call_go a dst g xs ats ty pos after guard
    rw [e]
    simp
  · obtain ⟨c, x, rfl, hcal, hx, ha⟩ := (comp_call hc).2 f as rfl
    have rf := compO_ok ht hx
    rw [hf] at rf
    obtain ⟨vs, ev, l1, g1⟩ := rf.fn_inv
    refine ⟨c.args.map a.eval ++ vs, ?_, ?_⟩
    · rw [Array.toList_append]
      exact (compOs_ok ht ha).append (All2.of_arr l1 g1)
    · simp [execOp, resolve, hcal, ev, Deferred.ofValue, invoke]

theorem op_wp {P : Program} {comp : Code → Option ACode} {T : Table} (hT : TabOK P comp T) {ex : Exec} (hex : WpOK P comp ex) {Γ : Ctx} (hR : HRel Γ) {id nx : Nat} (hid : ¬ Γ.U id) (hU : ∀ c, Γ.U c → c < nx)
    {tm : TM} {a : Act} (ht : TR Γ tm a) {o : Oper} {ao : AOp} (hc : compOp P o.op = some ao) {r : AV} {H' : Heap} {nx' : Nat}
    (h : (aop ao tm id Γ.H = some (.val r H') ∧ nx' = nx) ∨ ∃ g args, aop ao tm id Γ.H = some (.call g args) ∧ callF T ex id g args Γ.H nx = some (r, H', nx'))
    {next : Act → World → Prop} {Q : Exit → Act → World → Prop} (hn : ∀ v Γ', Back Γ id nx nx' r H' v Γ' → next (a.put o.dst v) Γ'.w) : o.wp P a Γ.w next Q := by
  rcases h with ⟨h, rfl⟩ | ⟨g, args, h1, h2⟩
  · obtain ⟨nx2, Γ', e1, e2, e3, e4, e5, e6⟩ := does_op hR hid ht hc h
    have hb : ∀ v, RL Γ' r v → Back Γ id nx' nx' r H' v Γ' := fun v hv =>
      ⟨e2, e3, e4, hv, fun c hc => (e5 c hc).elim .inl (fun h => .inr (.inl h)), fun c hc => (e5 c hc).elim (fun h => .inr (hU c h)) .inl, Nat.le_refl _⟩
    unfold Oper.wp
    rw [e1]
    rcases e6 with ⟨v, rfl, hv⟩ | ⟨rfl, hv⟩
    · exact hn v Γ' (hb v hv)
    · exact hn undef Γ' (hb undef hv)
  · obtain ⟨vs, hargs, he⟩ := call_args hR ht hc h1
    unfold Oper.wp
    rw [he]
    rcases callF_ok hT hex hR hid hU hargs h2 with ⟨k1, k2⟩ | ⟨v, Γ', k1, k2⟩
    · rw [k1]
      refine Calls.mono k2 ?_
      rintro e w' ⟨v, Γ', rfl, rfl, hb⟩
      exact hn v Γ' hb
    · rw [k1]
      exact hn v Γ' k2

end Go.Am

/- Regions whose order is open: the run in the text's order as a row of writes. -/
namespace Go.Am
set_option autoImplicit false
set_option linter.unusedSimpArgs false
set_option linter.unusedVariables false

def sg (s : St) : Sg
  | .t n => .a (tget s.tm n)
  | .c c => .h (hget s.H c)
  | .x => .n s.nx

/-- What one operation sets. -/
def wOf (T : Table) (L : Nat → Bool) (o : AOper) (d : DR) : Wr
  | .t n => if o.dst = some n ∧ L n = true then some (.a d.r) else none
  | .c c => if memN c d.wr = true ∨ (hget d.H2 c).isSome then some (.h (hget d.H2 c)) else none
  | .x => if o.op.numbers T = true then some (.n d.nx) else none

theorem dopA_nx {T : Table} {ex : Exec} {id : Nat} {o : AOper} {s : St} {d : DR} (h : dopA T ex id o s = some d) (hn : o.op.numbers T = false) : d.nx = s.nx := by
  unfold dopA at h
  cases hg : goes s.tm o with
  | false => simp only [hg, cond_false, Option.some.injEq] at h; rw [← h]
  | true =>
    simp only [hg, cond_true] at h
    split at h
    · simp at h
    · simp only [Option.some.injEq] at h
      rw [← h]; cases o.op.makes T <;> rfl
    · split at h
      · simp at h
      · simp only [Option.some.injEq] at h
        rw [← h]; cases o.op.makes T <;> simp [hn]

theorem sg_dput {T : Table} {L : Nat → Bool} {o : AOper} {s : St} {d : DR} (hL : thas s.tm = L) (hn : o.op.numbers T = false → d.nx = s.nx) : sg (dput s o.dst d) = (wOf T L o d).ap (sg s) := by
  funext l
  cases l with
  | t n =>
    simp only [sg, dput, Wr.ap, wOf]
    cases hd : o.dst with
    | none => simp
    | some k =>
      simp only [tget_tset, Option.some.injEq, hL]
      by_cases hk : n = k
      · subst hk; cases L n <;> simp
      · simp [hk, Ne.symm hk]
  | c c =>
    simp only [sg, dput, Wr.ap, wOf, hget_append, hget_hout]
    cases hc : hget d.H2 c with
    | some ch => simp
    | none => cases hm : memN c d.wr <;> simp
  | x =>
    simp only [sg, dput, Wr.ap, wOf]
    cases hx : o.op.numbers T with
    | true => simp
    | false => simp [hn hx]

def wsOf (T : Table) (L : Nat → Bool) : List AOper → List DR → List Wr
  | o :: os, d :: ds => wOf T L o d :: wsOf T L os ds
  | _, _ => []
theorem wsOf_get {T : Table} {L : Nat → Bool} : ∀ {os : List AOper} {ds : List DR} {j : Nat} {w : Wr}, (wsOf T L os ds)[j]? = some w → ∃ o d, os[j]? = some o ∧ ds[j]? = some d ∧ w = wOf T L o d
  | [], ds, j, w, h => by simp [wsOf] at h
  | o :: os, [], j, w, h => by simp [wsOf] at h
  | o :: os, d :: ds, 0, w, h => by simp [wsOf] at h; exact ⟨o, d, rfl, rfl, h.symm⟩
  | o :: os, d :: ds, j + 1, w, h => by
    simp only [wsOf, List.getElem?_cons_succ] at h
    obtain ⟨o', d', h1, h2, h3⟩ := wsOf_get h
    exact ⟨o', d', by simpa using h1, by simpa using h2, h3⟩
theorem wsOf_some {T : Table} {L : Nat → Bool} : ∀ {os : List AOper} {ds : List DR} {j : Nat} {o : AOper} {d : DR}, os[j]? = some o → ds[j]? = some d → (wsOf T L os ds)[j]? = some (wOf T L o d)
  | [], ds, j, o, d, h, _ => by simp at h
  | o' :: os, [], j, o, d, _, h => by simp at h
  | o' :: os, d' :: ds, 0, o, d, h, k => by simp at h k; subst h; subst k; rfl
  | o' :: os, d' :: ds, j + 1, o, d, h, k => by simp only [wsOf, List.getElem?_cons_succ]; exact wsOf_some (by simpa using h) (by simpa using k)

theorem dreg_trace {T : Table} {ex : Exec} {base : Nat} {L : Nat → Bool} : ∀ {os : List AOper} {k : Nat} {s s' : St} {ds : List DR}, dregOps T ex base os k s = some (ds, s') → thas s.tm = L →
    thas s'.tm = L ∧ sg s' = foldW (fun _ => true) (wsOf T L os ds) k (sg s) ∧ ds.length = os.length ∧
    ∀ i o, os[i]? = some o → ∃ si d, ds[i]? = some d ∧ dopA T ex (base + (k + i)) o si = some d ∧ thas si.tm = L ∧ sg si = foldW (fun j => decide (j < k + i)) (wsOf T L os ds) k (sg s)
  | [], k, s, s', ds, h, hL => by
    simp only [dregOps, Option.some.injEq, Prod.mk.injEq] at h
    obtain ⟨rfl, rfl⟩ := h
    exact ⟨hL, rfl, rfl, fun i o h => by simp at h⟩
  | o :: os, k, s, s', ds, h, hL => by
    simp only [dregOps] at h
    cases hd : dopA T ex (base + k) o s with
    | none => simp [hd] at h
    | some d =>
      simp only [hd] at h
      cases hr : dregOps T ex base os (k + 1) (dput s o.dst d) with
      | none => simp [hr] at h
      | some p =>
        obtain ⟨ds', s2⟩ := p
        simp only [hr, Option.some.injEq, Prod.mk.injEq] at h
        obtain ⟨rfl, rfl⟩ := h
        have hL' : thas (dput s o.dst d).tm = L := by
          simp only [dput]; cases o.dst <;> simp [thas_tset, hL]
        have hsg := sg_dput (T := T) (o := o) (d := d) hL (dopA_nx hd)
        obtain ⟨t1, t2, t3, t4⟩ := dreg_trace hr hL'
        refine ⟨t1, ?_, by simp [t3], fun i o' ho => ?_⟩
        · rw [t2, hsg]; rfl
        · cases i with
          | zero =>
            simp only [List.getElem?_cons_zero, Option.some.injEq] at ho
            subst ho
            refine ⟨s, d, rfl, by simpa using hd, hL, ?_⟩
            rw [foldW_none _ (fun j hj => by simp; omega)]
          | succ i =>
            obtain ⟨si, d', h1, h2, h3, h4⟩ := t4 i o' (by simpa using ho)
            refine ⟨si, d', by simpa using h1, by rw [show k + (i + 1) = k + 1 + i by omega]; exact h2, h3, ?_⟩
            rw [h4, hsg]
            simp only [wsOf, foldW]
            have : decide (k < k + (i + 1)) = true := by simp
            rw [this, cond_true]
            congr 1
            funext j
            congr 1
            apply propext
            omega

/-! ### Who may not meet -/
theorem memN_iff {c : Nat} {l : List Nat} : memN c l = true ↔ c ∈ l := by
  induction l with
  | nil => simp [memN]
  | cons k r ih =>
    simp only [memN, List.mem_cons]
    by_cases hk : k = c
    · subst hk; simp
    · have : Nat.beq k c = false := nbeq_false hk
      simp [this, ih, Ne.symm hk]
theorem keysA_mem {H : Heap} {c : Nat} (h : (hget H c).isSome = true) : c ∈ keysA H := by
  induction H with
  | nil => simp [hget] at h
  | cons p r ih =>
    obtain ⟨k, ch⟩ := p
    simp only [hget_cons] at h
    simp only [keysA, List.mem_cons]
    split at h
    · rename_i e; exact .inl e.symm
    · exact .inr (ih h)
theorem apartN_iff {a b : List Nat} (h : apartN a b = true) : ∀ c ∈ a, c ∉ b := by
  induction a with
  | nil => intro c hc; simp at hc
  | cons x r ih =>
    simp only [apartN, Bool.and_eq_true, Bool.not_eq_true'] at h
    intro c hc
    rcases List.mem_cons.1 hc with rfl | hc
    · intro hb
      have := memN_iff.2 hb
      rw [h.1] at this; simp at this
    · exact ih h.2 c hc
theorem wOf_chunk {T : Table} {L : Nat → Bool} {o : AOper} {d : DR} {c : Nat} (h : wOf T L o d (.c c) ≠ none) : c ∈ d.dm := by
  simp only [wOf] at h
  split at h
  · rename_i hc
    simp only [DR.dm, List.mem_append]
    rcases hc with hc | hc
    · exact .inl (memN_iff.1 hc)
    · exact .inr (keysA_mem hc)
  · simp at h
theorem apartD_iff {x y : DR} (h : apartD x y = true) : (∀ c ∈ x.rd, c ∉ y.dm) ∧ (∀ c ∈ x.dm, c ∉ y.rd) ∧ (∀ c ∈ x.dm, c ∉ y.dm) := by
  simp only [apartD, Bool.and_eq_true] at h
  exact ⟨apartN_iff h.1.1, apartN_iff h.1.2, apartN_iff h.2⟩
theorem getD_get {ds : List DR} {i : Nat} {d : DR} (h : ds[i]? = some d) : getD ds i = d := by
  induction ds generalizing i with
  | nil => simp at h
  | cons x r ih =>
    cases i with
    | zero => simpa [getD] using h
    | succ i => simpa [getD] using ih (by simpa using h)
theorem chkU_iff {ds : List DR} {d : DR} {l : List Nat} (h : chkU ds d l = true) : ∀ k ∈ l, ∀ x, ds[k]? = some x → apartD x d = true := by
  induction l with
  | nil => intro k hk; simp at hk
  | cons y r ih =>
    simp only [chkU, Bool.and_eq_true] at h
    intro k hk x hx
    rcases List.mem_cons.1 hk with rfl | hk
    · rw [getD_get hx] at h; exact h.1
    · exact ih h.2 k hk x hx
theorem chkD_iff {all : List DR} : ∀ {os : List AOper} {ds : List DR}, chkD all os ds = true → ∀ (i : Nat) (o : AOper) (d : DR), os[i]? = some o → ds[i]? = some d → ∀ k ∈ o.un, ∀ x, all[k]? = some x → apartD x d = true
  | [], ds, h, i, o, d, ho, _ => by simp at ho
  | o' :: os, [], h, i, o, d, _, hd => by simp at hd
  | o' :: os, d' :: ds, h, i, o, d, ho, hd => by
    simp only [chkD, Bool.and_eq_true] at h
    cases i with
    | zero => simp at ho hd; subst ho; subst hd; exact chkU_iff h.1
    | succ i => exact chkD_iff h.2 i o d (by simpa using ho) (by simpa using hd)

/-- What an operation that neither looks nor makes comes to. -/
theorem dopA_rd {T : Table} {ex : Exec} {id : Nat} {o : AOper} {s : St} {d : DR} (h : dopA T ex id o s = some d) : (o.op.looks = false → d.rd = []) ∧ (o.op.makes T = false → d.dm = []) := by
  have ht : o.op.looks = false → touchA s.tm s.H o.op = [] := by
    intro hl
    cases hop : o.op <;> simp [hop, AOp.looks] at hl <;> rfl
  unfold dopA at h
  cases hg : goes s.tm o with
  | false => simp only [hg, cond_false, Option.some.injEq] at h; subst h; exact ⟨fun _ => rfl, fun _ => rfl⟩
  | true =>
    simp only [hg, cond_true] at h
    split at h
    · simp at h
    · simp only [Option.some.injEq] at h
      subst h
      cases hm : o.op.makes T
      · exact ⟨fun hl => by simpa using ht hl, fun _ => rfl⟩
      · exact ⟨fun hl => by simpa using ht hl, fun h => by simp at h⟩
    · split at h
      · simp at h
      · simp only [Option.some.injEq] at h
        subst h
        cases hm : o.op.makes T
        · exact ⟨fun hl => by simpa using ht hl, fun _ => rfl⟩
        · exact ⟨fun hl => by simpa using ht hl, fun h => by simp at h⟩

end Go.Am

/- From the loaded program's code to the interpreter's: regions, code, functions. -/
namespace Go.Am
set_option autoImplicit false
set_option linter.unusedSimpArgs false
set_option linter.unusedVariables false

def compGuard (ops : Array Oper) : Option (Nat × Bool) → Option (Option (Nat × Bool))
  | none => some none
  | some (j, want) => match (ops[j]?).bind (·.dst) with
    | none => none
    | some d => some (some (d, want))
def compOper (P : Program) (ops : Array Oper) (o : Oper) : Option AOper :=
  match compGuard ops o.guard with
  | some g => some { dst := o.dst, op := (compOp P o.op).getD .bad, guard := g }
  | none => none

def bitsOf (acc : List Nat) : List Edge → Nat
  | [] => 0
  | e :: r => bif Region.binds .any e then (bitsOf acc r ||| 2 ^ e.on) ||| acc.getD e.on 0 else bitsOf acc r
def befs : List Oper → List Nat → List Nat
  | [], acc => acc
  | o :: os, acc => befs os (acc ++ [bitsOf acc o.after.toList])
def edgesOK : List Oper → Nat → Bool
  | [], _ => true
  | o :: os, i => (o.after.toList.all fun e => !Region.binds .any e || Nat.blt e.on i) && edgesOK os (i + 1)

def meets (T : Table) (x y : AOp) : Bool := ((x.looks || x.makes T) && y.makes T) || (x.makes T && (y.looks || y.makes T))
def unOf (T : Table) (b : Nat) (o : AOper) : List AOper → Nat → List Nat
  | [], _ => []
  | p :: ps, k => bif !b.testBit k && meets T o.op p.op then k :: unOf T b o ps (k + 1) else unOf T b o ps (k + 1)
def dstOut (p o : AOper) : Bool := match p.dst with
  | none => true
  | some k => !memN k o.tmps && (match o.dst with
    | none => true
    | some k' => !Nat.beq k' k)
def apartT (T : Table) (o p : AOper) : Bool := dstOut p o && dstOut o p && !(o.op.numbers T && p.op.numbers T)
def fitD (T : Table) (b : Nat) (o : AOper) : List AOper → Nat → Bool
  | [], _ => true
  | p :: ps, k => (b.testBit k || apartT T o p) && fitD T b o ps (k + 1)
def compD (T : Table) : List Nat → List AOper → List AOper → Option (List AOper)
  | _, _, [] => some []
  | [], _, _ :: _ => none
  | b :: bs, done, o :: os => bif fitD T b o done 0 then
      match compD T bs (done ++ [o]) os with
      | none => none
      | some r => some ({ o with un := unOf T b o done 0 } :: r)
    else none
def compRegion (P : Program) (T : Table) (ops : Array Oper) (draw : Bool) : Option ACode :=
  match mapO (compOper P ops) ops.toList with
  | none => none
  | some as => bif draw then (bif edgesOK ops.toList 0 then (compD T (befs ops.toList []) [] as).map .dregion else none) else some (.region as)
def compC (P : Program) (T : Table) : Code → Option ACode
  | .skip => some .skip
  | .region _ ops draw => compRegion P T ops draw
  | .seq a b => match compC P T a, compC P T b with
    | some x, some y => some (.seq x y)
    | _, _ => none
  | .cond c a b => match compO c, compC P T a, compC P T b with
    | some z, some x, some y => some (.cond z x y)
    | _, _, _ => none
  | .block id c => (compC P T c).map (.block id ·)
  | .loop c => (compC P T c).map .loop
  | .exit id => some (.exit id)
  | .scope c => (compC P T c).map fun x => .scope x x
  | .label l => some (.label l)
  | .goto l => some (.goto l)
  | .ret => some .ret
  | _ => none
/-- A function's code, own or not. -/
def compF (P : Program) (T : Table) (own : Bool) (g : Nat) : Option AFun :=
  match P.funcs[g]? with
  | none => none
  | some fn => match fn.body with
    | none => none
    | some c => match compC P T c, compRess P fn.results with
      | some b, some r => bif (fn.name == "runtime.NumGoroutine") then none else some ⟨own, fn.ntmps, r, b⟩
      | _, _ => none

theorem compF_ok {P : Program} {T : Table} {own : Bool} {g : Nat} {f : AFun} (h : compF P T own g = some f) : FunOK P (compC P T) g f := by
  unfold compF at h
  split at h
  · simp at h
  · rename_i fn hfn
    split at h
    · simp at h
    · rename_i c hc
      split at h
      · rename_i b r hb hr
        cases hn : (fn.name == "runtime.NumGoroutine") with
        | true => simp [hn] at h
        | false =>
          simp only [hn, cond_false, Option.some.injEq] at h
          subst h
          exact ⟨fn, c, hfn, hn, hc, hb, rfl, hr⟩
      · simp at h

theorem compOper_inv {P : Program} {ops : Array Oper} {o : Oper} {ao : AOper} (h : compOper P ops o = some ao) : (compOp P o.op = some ao.op ∨ ao.op = .bad) ∧ ao.dst = o.dst ∧ compGuard ops o.guard = some ao.guard := by
  unfold compOper at h
  split at h
  · rename_i g h2
    simp only [Option.some.injEq] at h; subst h
    refine ⟨?_, rfl, h2⟩
    cases compOp P o.op with
    | none => exact .inr rfl
    | some a => exact .inl rfl
  · simp at h

theorem unbad {P : Program} {o : Oper} {ao : AOp} (h : compOp P o.op = some ao ∨ ao = .bad) {tm : TM} {id : Nat} {H : Heap} {x : Out} (hx : aop ao tm id H = some x) : compOp P o.op = some ao := by
  rcases h with h | rfl
  · exact h
  · simp [aop] at hx

theorem wanted_ok {P : Program} {ops : Array Oper} {o : Oper} {ao : AOper} (h : compOper P ops o = some ao) {Γ : Ctx} {tm : TM} {a : Act} (ht : TR Γ tm a) : Region.wanted o (yielded ops a.tmps) = goes tm ao := by
  obtain ⟨_, _, hg⟩ := compOper_inv h
  unfold Region.wanted goes
  cases hgo : o.guard with
  | none =>
    simp only [hgo, compGuard, Option.some.injEq] at hg
    rw [← hg]
  | some p =>
    obtain ⟨j, want⟩ := p
    simp only [hgo, compGuard] at hg
    split at hg
    · simp at hg
    · rename_i d hd
      simp only [Option.some.injEq] at hg
      rw [← hg]
      simp only [yielded, hd, Option.bind_some]
      have hr := ht.get d
      have hgd : a.tmps.getD d undef = (a.tmps[d]?).getD undef := by simp [Array.getD_eq_getD_getElem?]
      rw [hgd] at hr
      generalize tget tm d = x at hr
      have key : ∀ x : AV, (∀ b, x ≠ .v (.bool b)) → (match x with
          | .v (.bool b) => b == want
          | _ => false) = false := by
        intro x hx
        split
        · rename_i b; exact absurd rfl (hx b)
        · rfl
      cases hx : a.tmps[d]? with
      | none =>
        rw [hx] at hr
        simp only [Option.getD_none] at hr
        have : ∀ b, x ≠ .v (.bool b) := by
          rintro b rfl
          have := hr.v_inv
          simp [undef] at this
        exact (key x this).symm
      | some v =>
        rw [hx] at hr
        simp only [Option.getD_some] at hr
        cases v with
        | bool b =>
          have : x = .v (.bool b) := by
            cases hr with
            | tree h => cases h; rfl
          subst this
          cases b <;> cases want <;> rfl
        | _ =>
          have : ∀ b, x ≠ .v (.bool b) := by
            rintro b rfl
            have := hr.v_inv
            simp at this
          exact (key x this).symm

theorem put_ok {Γ : Ctx} {tm : TM} {a : Act} (ht : TR Γ tm a) (dst : Option Nat) {r : AV} {v : Value} (hr : RL Γ r v) : TR Γ (match dst with
    | none => tm
    | some k => tset tm k r) (a.put dst v) := by
  cases dst with
  | none => exact ht
  | some k =>
    exact ht.set hr a.defers
theorem put_defers (a : Act) (dst : Option Nat) (v : Value) : (a.put dst v).defers = a.defers := by cases dst <;> rfl

/-! ### Order -/
theorem befs_spec : ∀ {os : List Oper} {acc : List Nat}, ∃ r, befs os acc = acc ++ r ∧ r.length = os.length ∧ ∀ i o, os[i]? = some o → r[i]? = some (bitsOf ((befs os acc).take (acc.length + i)) o.after.toList)
  | [], acc => ⟨[], by simp [befs], rfl, fun i o h => by simp at h⟩
  | o :: os, acc => by
    obtain ⟨r, h1, h2, h3⟩ := befs_spec (os := os) (acc := acc ++ [bitsOf acc o.after.toList])
    refine ⟨bitsOf acc o.after.toList :: r, by simp [befs, h1], by simp [h2], fun i o' ho => ?_⟩
    cases i with
    | zero =>
      simp only [List.getElem?_cons_zero, Option.some.injEq] at ho
      subst ho
      simp [befs, h1]
    | succ i =>
      have := h3 i o' (by simpa using ho)
      simp only [List.getElem?_cons_succ, befs]
      rw [this]
      simp only [List.length_append, List.length_cons, List.length_nil]
      rw [show acc.length + (0 + 1) + i = acc.length + (i + 1) by omega]

theorem bitsOf_test {acc : List Nat} : ∀ {es : List Edge} {j : Nat}, (bitsOf acc es).testBit j = true → ∃ e ∈ es, Region.binds .any e = true ∧ (j = e.on ∨ (acc.getD e.on 0).testBit j = true)
  | [], j, h => by simp [bitsOf] at h
  | e :: r, j, h => by
    simp only [bitsOf] at h
    cases hb : Region.binds .any e with
    | false =>
      simp only [hb, cond_false] at h
      obtain ⟨e', h1, h2⟩ := bitsOf_test h
      exact ⟨e', List.mem_cons_of_mem _ h1, h2⟩
    | true =>
      simp only [hb, cond_true, Nat.testBit_or, Bool.or_eq_true] at h
      rcases h with (h | h) | h
      · obtain ⟨e', h1, h2⟩ := bitsOf_test h
        exact ⟨e', List.mem_cons_of_mem _ h1, h2⟩
      · refine ⟨e, by simp, hb, .inl ?_⟩
        rw [Nat.testBit_two_pow] at h
        simpa [eq_comm] using h
      · exact ⟨e, by simp, hb, .inr h⟩

theorem edgesOK_iff : ∀ {os : List Oper} {k : Nat}, edgesOK os k = true → ∀ i o, os[i]? = some o → ∀ e ∈ o.after.toList, Region.binds .any e = true → e.on < k + i
  | [], k, h, i, o, ho => by simp at ho
  | o' :: os, k, h, i, o, ho => by
    simp only [edgesOK, Bool.and_eq_true] at h
    cases i with
    | zero =>
      simp only [List.getElem?_cons_zero, Option.some.injEq] at ho
      subst ho
      intro e he hb
      have := List.all_eq_true.1 h.1 e he
      simp only [hb, Bool.not_true, Bool.false_or] at this
      have : e.on < k := by simpa [Nat.blt_eq] using this
      omega
    | succ i =>
      intro e he hb
      have := edgesOK_iff h.2 i o (by simpa using ho) e he hb
      omega

/-- What is ahead of an operation is in every set that is closed under the edges. -/
theorem ahead_closed {os : List Oper} (hE : edgesOK os 0 = true) {D : Nat → Prop} (hD : ∀ i o, os[i]? = some o → D i → ∀ e ∈ o.after.toList, Region.binds .any e = true → D e.on) :
    ∀ (i : Nat) (o : Oper), os[i]? = some o → (∀ e ∈ o.after.toList, Region.binds .any e = true → D e.on) → ∀ j, ((befs os []).getD i 0).testBit j = true → D j ∧ j < i := by
  obtain ⟨r, h1, h2, h3⟩ := befs_spec (os := os) (acc := [])
  simp only [List.nil_append, List.length_nil, Nat.zero_add] at h1 h3
  intro i
  induction i using Nat.strongRecOn with
  | _ i ih =>
    intro o ho he j hj
    have hi := h3 i o ho
    rw [← h1] at hi
    rw [List.getD_eq_getElem?_getD, hi, Option.getD_some] at hj
    obtain ⟨e, e1, e2, e3⟩ := bitsOf_test hj
    have hlt : e.on < i := by simpa using edgesOK_iff hE i o ho e e1 e2
    rcases e3 with rfl | e3
    · exact ⟨he e e1 e2, hlt⟩
    · have hk : (((befs os []).take i).getD e.on 0) = (befs os []).getD e.on 0 := by
        simp [List.getD_eq_getElem?_getD, List.getElem?_take, hlt]
      rw [hk] at e3
      have hlen : e.on < os.length := by
        have := (List.getElem?_eq_some_iff.1 ho).1
        omega
      obtain ⟨k1, k2⟩ := ih e.on hlt os[e.on] (by simp [hlen]) (fun e' h1' h2' => hD e.on os[e.on] (by simp [hlen]) (he e e1 e2) e' h1' h2') j e3
      exact ⟨k1, by omega⟩

theorem unOf_mem {T : Table} {b : Nat} {o : AOper} : ∀ {ps : List AOper} {k : Nat} {j : Nat} {p : AOper}, ps[j]? = some p → b.testBit (k + j) = false → meets T o.op p.op = true → k + j ∈ unOf T b o ps k
  | [], k, j, p, h, _, _ => by simp at h
  | q :: ps, k, 0, p, h, hb, hm => by
    simp only [List.getElem?_cons_zero, Option.some.injEq] at h
    subst h
    simp only [Nat.add_zero] at hb
    simp [unOf, hb, hm]
  | q :: ps, k, j + 1, p, h, hb, hm => by
    have := unOf_mem (T := T) (b := b) (o := o) (ps := ps) (k := k + 1) (j := j) (p := p) (by simpa using h) (by rwa [show k + 1 + j = k + (j + 1) by omega]) hm
    rw [show k + 1 + j = k + (j + 1) by omega] at this
    simp only [unOf]
    cases (!b.testBit k && meets T o.op q.op) <;> simp [this]
theorem fitD_mem {T : Table} {b : Nat} {o : AOper} : ∀ {ps : List AOper} {k : Nat} {j : Nat} {p : AOper}, fitD T b o ps k = true → ps[j]? = some p → b.testBit (k + j) = false → apartT T o p = true
  | [], k, j, p, _, h, _ => by simp at h
  | q :: ps, k, 0, p, hf, h, hb => by
    simp only [List.getElem?_cons_zero, Option.some.injEq] at h
    subst h
    simp only [Nat.add_zero] at hb
    simp only [fitD, hb, Bool.false_or, Bool.and_eq_true] at hf
    exact hf.1
  | q :: ps, k, j + 1, p, hf, h, hb => by
    simp only [fitD, Bool.and_eq_true] at hf
    exact fitD_mem hf.2 (by simpa using h) (by rwa [show k + 1 + j = k + (j + 1) by omega])
theorem compD_spec {T : Table} : ∀ {bs : List Nat} {done os as : List AOper}, compD T bs done os = some as → as.length = os.length ∧ ∀ i o, os[i]? = some o →
    as[i]? = some { o with un := unOf T (bs.getD i 0) o (done ++ os.take i) 0 } ∧ fitD T (bs.getD i 0) o (done ++ os.take i) 0 = true
  | bs, done, [], as, h => by
    have : as = [] := by cases bs <;> simp [compD] at h <;> exact h
    subst this
    exact ⟨rfl, fun i o h => by simp at h⟩
  | [], done, _ :: _, as, h => by simp [compD] at h
  | b :: bs, done, o :: os, as, h => by
    simp only [compD] at h
    cases hf : fitD T b o done 0 with
    | false => simp [hf] at h
    | true =>
      simp only [hf, cond_true] at h
      cases hr : compD T bs (done ++ [o]) os with
      | none => simp [hr] at h
      | some r =>
        simp only [hr, Option.some.injEq] at h
        subst h
        obtain ⟨k1, k2⟩ := compD_spec hr
        refine ⟨by simp [k1], fun i o' ho => ?_⟩
        cases i with
        | zero =>
          simp only [List.getElem?_cons_zero, Option.some.injEq] at ho
          subst ho
          simp [hf]
        | succ i =>
          have := k2 i o' (by simpa using ho)
          simpa [List.append_assoc] using this

end Go.Am

/- Regions whose order is open: what the run in the text's order tells, every order does. -/
namespace Go.Am
set_option autoImplicit false
set_option linter.unusedSimpArgs false
set_option linter.unusedVariables false

/-! ### A part of the memory -/
theorem HRel.part {Γ : Ctx} (hR : HRel Γ) {Hc : Heap} (hs : ∀ c ch, hget Hc c = some ch → hget Γ.H c = some ch) : HRel { Γ with H := Hc } := by
  refine ⟨fun c ch hc => ?_, fun c c' ch ch' h1 h2 he => hR.inj c c' ch ch' (hs c ch h1) (hs c' ch' h2) he, fun c ch hc => hR.sep c ch (hs c ch hc), hR.bnd⟩
  obtain ⟨h1, arr, h2, h3, h4, h5⟩ := hR.ok c ch (hs c ch hc)
  exact ⟨h1, arr, h2, h3, h4, fun j a x ha hx => (h5 j a x ha hx).reH _⟩
theorem Ev.reH {Γ Γ' : Ctx} (h : Ev Γ Γ') {H' : Heap} (hs : ∀ c, hget H' c = hget Γ'.H c) : Ev Γ { Γ' with H := H' } :=
  ⟨h.U, fun c ch' hU hc => h.keep c ch' hU (by rw [← hs]; exact hc), h.F, h.Fnew, h.size, fun b hb hf => ⟨(h.frame b hb hf).1, fun c ch hc => (h.frame b hb hf).2 c ch (by rw [← hs]; exact hc)⟩, h.os, h.tape, h.output, h.same⟩

/-- What was done in a part of the memory, the rest standing by. -/
theorem frame_ok {Γ : Ctx} (hR : HRel Γ) {Hc Hr : Heap} (hs : ∀ c ch, hget Hc c = some ch → hget Γ.H c = some ch) (hr : ∀ c ch, hget Hr c = some ch → hget Γ.H c = some ch ∧ hget Hc c = none)
    {Γ' : Ctx} (bev : Ev { Γ with H := Hc } Γ') (bok : HRel Γ') : Ev Γ { Γ' with H := Γ'.H ++ Hr } ∧ HRel { Γ' with H := Γ'.H ++ Hr } := by
  have hRc := hR.part hs
  have hfree : ∀ c ch, hget Hr c = some ch → Γ.blk c < Γ.w.heap.size ∧ ({ Γ with H := Hc } : Ctx).free (Γ.blk c) := by
    intro c ch hc
    obtain ⟨hg, hm⟩ := hr c ch hc
    obtain ⟨_, arr, h1, _⟩ := hR.ok c ch hg
    refine ⟨heap_lt h1, fun c' ch' hc' he => ?_⟩
    have := hR.inj c' c ch' ch (hs c' ch' hc') hg he
    subst this
    have hc2 : hget Hc c' = some ch' := hc'
    rw [hm] at hc2; simp at hc2
  have hgm : ∀ c ch, hget (Γ'.H ++ Hr) c = some ch → hget Γ'.H c = some ch ∨ hget Hr c = some ch := by
    intro c ch hc
    rw [hget_append] at hc
    cases hg : hget Γ'.H c with
    | none => rw [hg] at hc; exact .inr hc
    | some x => rw [hg] at hc; exact .inl hc
  have hUof : ∀ c ch, hget Hr c = some ch → Γ.U c := fun c ch hc => (hR.ok c ch (hr c ch hc).1).1
  constructor
  · refine ⟨bev.U, ?_, bev.F, bev.Fnew, bev.size, ?_, bev.os, bev.tape, bev.output, bev.same⟩
    · intro c ch' hUc hc
      rcases hgm c ch' hc with hc | hc
      · obtain ⟨ch, h1, h2, h3⟩ := bev.keep c ch' hUc hc
        exact ⟨ch, hs c ch h1, h2, h3⟩
      · exact ⟨ch', (hr c ch' hc).1, bev.same c hUc⟩
    · intro b hb hf
      obtain ⟨k1, k2⟩ := bev.frame b hb (fun c ch hc => hf c ch (hs c ch hc))
      refine ⟨k1, fun c ch hc => ?_⟩
      rcases hgm c ch hc with hc | hc
      · exact k2 c ch hc
      · show Γ'.blk c ≠ b
        rw [(bev.same c (hUof c ch hc)).1]
        exact hf c ch (hr c ch hc).1
  · refine ⟨fun c ch hc => ?_, fun c c' ch ch' hc hc' he => ?_, fun c ch hc hF => ?_, bok.bnd⟩
    · rcases hgm c ch hc with hc | hc
      · obtain ⟨h1, arr, h2, h3, h4, h5⟩ := bok.ok c ch hc
        exact ⟨h1, arr, h2, h3, h4, fun j a x ha hx => (h5 j a x ha hx).reH _⟩
      · obtain ⟨h1, arr, h2, h3, h4, h5⟩ := hR.ok c ch (hr c ch hc).1
        obtain ⟨k1, k2⟩ := hfree c ch hc
        refine ⟨bev.U c h1, arr, ?_, h3.trans (bev.same c h1).2.symm, h4, fun j a x ha hx => (((h5 j a x ha hx).reH _).ev hRc bev).reH _⟩
        show Γ'.w.heap[Γ'.blk c]? = _
        rw [(bev.same c h1).1]
        exact (bev.frame _ k1 k2).1.trans h2
    · have he : Γ'.blk c = Γ'.blk c' := he
      rcases hgm c ch hc with hc | hc <;> rcases hgm c' ch' hc' with hc' | hc'
      · exact bok.inj c c' ch ch' hc hc' he
      · rw [(bev.same c' (hUof c' ch' hc')).1] at he
        obtain ⟨k1, k2⟩ := hfree c' ch' hc'
        exact absurd he ((bev.frame _ k1 k2).2 c ch hc)
      · rw [(bev.same c (hUof c ch hc)).1] at he
        obtain ⟨k1, k2⟩ := hfree c ch hc
        exact absurd he.symm ((bev.frame _ k1 k2).2 c' ch' hc')
      · rw [(bev.same c (hUof c ch hc)).1, (bev.same c' (hUof c' ch' hc')).1] at he
        exact hR.inj c c' ch ch' (hr c ch hc).1 (hr c' ch' hc').1 he
    · rcases hgm c ch hc with hc | hc
      · exact bok.sep c ch hc hF
      · have hF : Γ'.F (Γ'.blk c) := hF
        rw [(bev.same c (hUof c ch hc)).1] at hF
        rcases bev.Fnew _ hF with hF | hF
        · exact hR.sep c ch (hr c ch hc).1 hF
        · have := (hfree c ch hc).1
          have : Γ.w.heap.size ≤ Γ.blk c := hF
          omega

/-! ### Two that are not ordered -/
structure Sep (T : Table) (o p : AOper) (d e : DR) : Prop where
  t : ∀ k, p.dst = some k → k ∉ o.tmps ∧ o.dst ≠ some k
  rd : ∀ c ∈ d.rd, c ∉ e.dm
  dm : ∀ c ∈ d.dm, c ∉ e.dm
  nx : ¬ (o.op.numbers T = true ∧ p.op.numbers T = true)

theorem dstOut_iff {p o : AOper} (h : dstOut p o = true) : ∀ k, p.dst = some k → k ∉ o.tmps ∧ o.dst ≠ some k := by
  intro k hk
  simp only [dstOut, hk, Bool.and_eq_true, Bool.not_eq_true'] at h
  refine ⟨fun hm => ?_, fun he => ?_⟩
  · have := memN_iff.2 hm
    rw [h.1] at this; simp at this
  · simp [he] at h

theorem meets_rd {T : Table} {o p : AOper} {d e : DR} (h : meets T o.op p.op = false) (ho : (o.op.looks = false → d.rd = []) ∧ (o.op.makes T = false → d.dm = [])) (hp : (p.op.looks = false → e.rd = []) ∧ (p.op.makes T = false → e.dm = [])) :
    (∀ c ∈ d.rd, c ∉ e.dm) ∧ (∀ c ∈ d.dm, c ∉ e.rd) ∧ (∀ c ∈ d.dm, c ∉ e.dm) := by
  simp only [meets] at h
  cases hml : o.op.makes T with
  | false =>
    have e1 := ho.2 hml
    simp only [hml, Bool.or_false, Bool.false_and, Bool.or_false] at h
    refine ⟨?_, by simp [e1], by simp [e1]⟩
    cases hmp : p.op.makes T with
    | false => simp [hp.2 hmp]
    | true =>
      have : o.op.looks = false := by simpa [hmp] using h
      simp [ho.1 this]
  | true =>
    simp only [hml, Bool.or_true, Bool.true_and] at h
    have hmp : p.op.makes T = false := by
      cases hx : p.op.makes T <;> simp [hx] at h ⊢
    have hlp : p.op.looks = false := by
      cases hx : p.op.looks <;> simp [hx] at h ⊢
    simp [hp.1 hlp, hp.2 hmp]

end Go.Am

/- Regions whose order is open: one operation in its turn. -/
namespace Go.Am
set_option autoImplicit false
set_option linter.unusedSimpArgs false
set_option linter.unusedVariables false

theorem goes_congr {tm tm' : TM} {o : AOper} (h : ∀ t ∈ o.tmps, tget tm t = tget tm' t) : goes tm o = goes tm' o := by
  unfold goes
  cases hg : o.guard with
  | none => rfl
  | some p =>
    obtain ⟨t, want⟩ := p
    simp only []
    rw [h t (by simp [AOper.tmps, hg])]
theorem opds_congr {tm tm' : TM} {o : AOper} (h : ∀ t ∈ o.tmps, tget tm t = tget tm' t) : ∀ x ∈ o.op.opds, x.ev tm = x.ev tm' :=
  ev_congr fun t ht => h t (by simp [AOper.tmps, ht])

theorem numbers_makes {T : Table} {op : AOp} (h : op.numbers T = true) : op.makes T = true := by
  cases op <;> simp [AOp.numbers, AOp.makes] at h ⊢
  rename_i g as
  unfold inG at h; unfold ownG
  split at h
  · simpa using h
  · simp at h

theorem dopA_spec {T : Table} {ex : Exec} {id : Nat} {o : AOper} {s : St} {d : DR} (h : dopA T ex id o s = some d) (hg : goes s.tm o = true) : ∃ H2 nx2,
    ((aop o.op s.tm id (hin d.rd s.H) = some (.val d.r H2) ∧ nx2 = s.nx) ∨ ∃ g args, aop o.op s.tm id (hin d.rd s.H) = some (.call g args) ∧ callF T ex id g args (hin d.rd s.H) s.nx = some (d.r, H2, nx2)) ∧
    (o.op.makes T = true → d.wr = d.rd ∧ d.H2 = H2) ∧ (o.op.makes T = false → d.wr = [] ∧ d.H2 = [] ∧ H2 = hin d.rd s.H) ∧ (o.op.numbers T = true → d.nx = nx2) := by
  unfold dopA at h
  simp only [hg, cond_true] at h
  split at h
  · simp at h
  · rename_i a H2 he
    simp only [Option.some.injEq] at h
    subst h
    cases hm : o.op.makes T with
    | true => exact ⟨H2, s.nx, .inl ⟨he, rfl⟩, fun _ => ⟨rfl, rfl⟩, fun h => by simp at h, fun _ => rfl⟩
    | false => exact ⟨H2, s.nx, .inl ⟨he, rfl⟩, fun h => by simp at h, fun _ => ⟨rfl, rfl, aop_same hm he⟩, fun _ => rfl⟩
  · rename_i g args he
    split at h
    · simp at h
    · rename_i a H2 nx hc
      simp only [Option.some.injEq] at h
      subst h
      cases hm : o.op.makes T with
      | true => exact ⟨H2, nx, .inr ⟨g, args, he, hc⟩, fun _ => ⟨rfl, rfl⟩, fun h => by simp at h, fun hn => by simp [hn]⟩
      | false =>
        refine ⟨H2, nx, .inr ⟨g, args, he, hc⟩, fun h => by simp at h, fun _ => ⟨rfl, rfl, ?_⟩, fun hn => by have := numbers_makes hn; rw [hm] at this; simp at this⟩
        rcases aop_call he with ⟨as, e, _⟩ | ⟨f, as, caps, e, _⟩
        · have hown : ownG T g = true := by simpa [e, AOp.makes] using hm
          exact callF_own hown hc
        · simp [e, AOp.makes] at hm

theorem call_nx {T : Table} {ex : Exec} {id : Nat} {op : AOp} {tm : TM} {H H0 : Heap} {g : Nat} {args : List AV} (he : aop op tm id H0 = some (.call g args)) (hn : op.numbers T = false) {nx nx2 m : Nat} {r : AV} {H2 : Heap} (hc : callF T ex id g args H nx = some (r, H2, nx2)) :
    callF T ex id g args H m = some (r, H2, m) := by
  rcases aop_call he with ⟨as, e, _⟩ | ⟨f, as, caps, e, _⟩
  · have : inG T g = false := by simpa [e, AOp.numbers] using hn
    exact (callF_nx this hc).2 m
  · simp [e, AOp.numbers] at hn

def Inv (Γ0 : Ctx) (ws : List Wr) (σ0 : Sg) (base n : Nat) (L : Nat → Bool) (D : Nat → Bool) (a : Act) (w : World) : Prop :=
  ∃ Γ s, Γ.w = w ∧ Now Γ s a ∧ sg s = foldW D ws 0 σ0 ∧ thas s.tm = L ∧ Ev Γ0 Γ ∧ base + n ≤ s.nx ∧ (∀ c, Γ.U c → Γ0.U c ∨ (∃ j, D j = true ∧ c = base + j) ∨ base + n ≤ c)

theorem op_turn {P : Program} {comp : Code → Option ACode} {T : Table} (hT : TabOK P comp T) {ex : Exec} (hex : WpOK P comp ex) {ops : Array Oper} {Γ0 : Ctx} {as : List AOper} {ds : List DR} {σ0 : Sg} {base n : Nat} {L : Nat → Bool} (hU0 : ∀ c, Γ0.U c → c < base)
    {D : Nat → Bool} {i : Nat} (hin' : i < n) (hDi : D i = false) {o : Oper} (ho : ops[i]? = some o) {ao : AOper} {d : DR} {si : St} (hao : as[i]? = some ao) (hd : ds[i]? = some d) (hc : compOp P o.op = some ao.op ∨ ao.op = .bad) (hdst : ao.dst = o.dst)
    (hwant : ∀ (Γ : Ctx) (tm : TM) (a : Act), TR Γ tm a → Region.wanted o (yielded ops a.tmps) = goes tm ao)
    (hdo : dopA T ex (base + i) ao si = some d) (hL : thas si.tm = L) (hsi : sg si = foldW (fun j => decide (j < i)) (wsOf T L as ds) 0 σ0)
    (hagree : ∀ l : Loc, (match l with
      | .t k => k ∈ ao.tmps
      | .c c => c ∈ d.rd
      | .x => ao.op.numbers T = true) → foldW (fun j => decide (j < i)) (wsOf T L as ds) 0 σ0 l = foldW D (wsOf T L as ds) 0 σ0 l)
    (hins : foldW (fun j => D j || j == i) (wsOf T L as ds) 0 σ0 = (wOf T L ao d).ap (foldW D (wsOf T L as ds) 0 σ0))
    {Q : Exit → Act → World → Prop} {K : Act → World → Prop} (hK : ∀ a w, Inv Γ0 (wsOf T L as ds) σ0 base n L (fun j => D j || j == i) a w → K a w)
    {a : Act} {w : World} (hI : Inv Γ0 (wsOf T L as ds) σ0 base n L D a w) : wpOp P ops Q i K a w := by
  obtain ⟨Γ, s, rfl, hnow, hsg, hsL, hev, hnx, hU⟩ := hI
  have agt : ∀ k ∈ ao.tmps, tget si.tm k = tget s.tm k := by
    intro k hk
    have := hagree (.t k) hk
    rw [← hsi, ← hsg] at this
    simp only [sg, LV.a.injEq] at this
    exact this
  have agc : ∀ c ∈ d.rd, hget si.H c = hget Γ.H c := by
    intro c hc
    have := hagree (.c c) hc
    rw [← hsi, ← hsg] at this
    simp only [sg, LV.h.injEq] at this
    rw [hnow.H]; exact this
  have agx : ao.op.numbers T = true → si.nx = s.nx := by
    intro hx
    have := hagree .x hx
    rw [← hsi, ← hsg] at this
    simp only [sg, LV.n.injEq] at this
    exact this
  have hgo : goes s.tm ao = goes si.tm ao := (goes_congr agt).symm
  have hw := hwant Γ s.tm a hnow.tr
  -- what was set, with a number of its own
  have hwof : ∀ m, (ao.op.numbers T = true → m = d.nx) → wOf T L ao { d with nx := m } = wOf T L ao d := by
    intro m hm
    funext l
    cases l with
    | t k => rfl
    | c c => rfl
    | x =>
      simp only [wOf]
      split
      · rename_i hn; rw [hm hn]
      · rfl
  have hUn : ∀ c, Γ.U c → Γ0.U c ∨ (∃ j, (D j || j == i) = true ∧ c = base + j) ∨ base + n ≤ c := fun c hc => (hU c hc).imp id fun h => h.imp (fun ⟨j, h1, h2⟩ => ⟨j, by simp [h1], h2⟩) id
  unfold wpOp
  simp only [ho]
  cases hg : goes si.tm ao with
  | false =>
    have hwf : Region.wanted o (yielded ops a.tmps) = false := by rw [hw, hgo, hg]
    simp only [hwf, if_false, Bool.false_eq_true]
    have hd' : d = ⟨aundef, [], [], [], si.nx⟩ := by
      unfold dopA at hdo
      simp only [hg, cond_false, Option.some.injEq] at hdo
      exact hdo.symm
    apply hK
    refine ⟨Γ, dput s ao.dst { d with nx := s.nx }, rfl, ⟨?_, hnow.ok, ?_, ?_, ?_⟩, ?_, ?_, hev, hnx, hUn⟩
    · simp only [dput, hd', hout, List.nil_append]; exact hnow.H
    · simp only [dput, hd', hdst]
      exact put_ok hnow.tr o.dst (RL.v Γ _)
    · exact hnow.lt
    · rw [put_defers]; exact hnow.df
    · rw [sg_dput (T := T) hsL (fun _ => rfl), hwof _ (fun hx => by rw [← agx hx, hd']), hins, hsg]
    · simp only [dput]; cases ao.dst <;> simp [thas_tset, hsL]
  | true =>
    have hwt : Region.wanted o (yielded ops a.tmps) = true := by rw [hw, hgo, hg]
    simp only [hwt, if_true]
    refine .inl ?_
    obtain ⟨H2, nx2, h1, h2, h3, h4⟩ := dopA_spec hdo hg
    have hopd : ∀ x ∈ ao.op.opds, x.ev si.tm = x.ev s.tm := opds_congr agt
    have hcong := aop_congr hopd (base + i) (hin d.rd si.H)
    have hsub : ∀ c ch, hget (hin d.rd si.H) c = some ch → hget Γ.H c = some ch := by
      intro c ch hc
      rw [hget_hin] at hc
      split at hc
      · rename_i hm; rw [← agc c (memN_iff.1 hm)]; exact hc
      · simp at hc
    have hRc := hnow.ok.part hsub
    have hid : ¬ ({ Γ with H := hin d.rd si.H } : Ctx).U (base + i) := by
      intro h
      rcases hU _ h with h | ⟨j, hj, e⟩ | h
      · have := hU0 _ h; omega
      · have : j = i := by omega
        subst this; rw [hDi] at hj; simp at hj
      · omega
    -- the run, at the number that stands here
    obtain ⟨nx', hrun, hnx'⟩ : ∃ nx', ((aop ao.op s.tm (base + i) (hin d.rd si.H) = some (.val d.r H2) ∧ nx' = s.nx) ∨ ∃ g args, aop ao.op s.tm (base + i) (hin d.rd si.H) = some (.call g args) ∧ callF T ex (base + i) g args (hin d.rd si.H) s.nx = some (d.r, H2, nx')) ∧ (ao.op.numbers T = true → nx' = d.nx) ∧ (ao.op.numbers T = false → nx' = s.nx) := by
      cases hn : ao.op.numbers T with
      | true =>
        refine ⟨nx2, ?_, fun _ => (h4 hn).symm, fun h => by simp at h⟩
        rw [← agx hn, ← hcong]; exact h1
      | false =>
        refine ⟨s.nx, ?_, fun h => by simp at h, fun _ => rfl⟩
        rw [← hcong]
        rcases h1 with ⟨h1, _⟩ | ⟨g, args, h1, hcf⟩
        · exact .inl ⟨h1, rfl⟩
        · exact .inr ⟨g, args, h1, call_nx h1 hn hcf⟩
    have htc : TR { Γ with H := hin d.rd si.H } s.tm a := hnow.tr.imp fun a x hx => hx.reH _
    have hc' : compOp P o.op = some ao.op := by
      rcases hrun with ⟨hx, _⟩ | ⟨_, _, hx, _⟩
      · exact unbad hc hx
      · exact unbad hc hx
    refine op_wp (Γ := { Γ with H := hin d.rd si.H }) hT hex hRc hid hnow.lt htc hc' hrun ?_
    intro v Γ' hb
    obtain ⟨bH, bev, bok, brl, bU, blt, bnx⟩ := hb
    apply hK
    have hrest : ∀ c ch, hget (hpart false d.rd Γ.H) c = some ch → hget Γ.H c = some ch ∧ hget (hin d.rd si.H) c = none := by
      intro c ch hc
      rw [hget_hpart] at hc
      split at hc
      · rename_i hm
        exact ⟨hc, by rw [hget_hin, hm]; simp⟩
      · simp at hc
    obtain ⟨f1, f2⟩ := frame_ok hnow.ok hsub hrest bev bok
    have hsgeq : sg { tm := (dput s ao.dst { d with nx := nx' }).tm, H := Γ'.H ++ hpart false d.rd Γ.H, nx := nx' } = sg (dput s ao.dst { d with nx := nx' }) := by
      funext l
      cases l with
      | t k => rfl
      | x => rfl
      | c c =>
        simp only [sg, dput, LV.h.injEq]
        rw [bH, hget_append, hget_append, hget_hpart, hget_hout]
        cases hm : ao.op.makes T with
        | true =>
          obtain ⟨e1, e2⟩ := h2 hm
          rw [e1, e2, hnow.H]
        | false =>
          obtain ⟨e1, e2, e3⟩ := h3 hm
          rw [e1, e2, e3, hget_hin]
          cases hmem : memN c d.rd with
          | true =>
            have := agc c (memN_iff.1 hmem)
            simp only [if_true, this, hget, memN]
            rw [hnow.H]
            cases hget s.H c <;> simp
          | false => simp [hget, memN, hnow.H]
    refine ⟨{ Γ' with H := Γ'.H ++ hpart false d.rd Γ.H }, { tm := (dput s ao.dst { d with nx := nx' }).tm, H := Γ'.H ++ hpart false d.rd Γ.H, nx := nx' }, rfl, ⟨rfl, f2, ?_, ?_, ?_⟩, ?_, ?_, hev.trans f1, ?_, ?_⟩
    · simp only [dput, hdst]
      refine put_ok (Γ := { Γ' with H := Γ'.H ++ hpart false d.rd Γ.H }) ?_ o.dst (brl.reH _)
      exact htc.imp fun a x hx => (hx.ev hRc bev).reH _
    · intro c hc
      rcases blt c hc with rfl | h
      · show base + i < nx'
        omega
      · exact h
    · rw [put_defers]; exact hnow.df
    · rw [hsgeq, sg_dput (T := T) hsL (fun hn => hnx'.2 hn), hwof _ hnx'.1, hins, hsg]
    · simp only [dput]; cases ao.dst <;> simp [thas_tset, hsL]
    · show base + n ≤ nx'
      omega
    · intro c hc
      rcases bU c hc with h | rfl | h
      · exact hUn c h
      · exact .inr (.inl ⟨i, by simp, rfl⟩)
      · exact .inr (.inr (by omega))

end Go.Am

/- Regions whose order is open: all orders. -/
namespace Go.Am
set_option autoImplicit false
set_option linter.unusedSimpArgs false
set_option linter.unusedVariables false

theorem mapO_get {α β : Type} {f : α → Option β} : ∀ {l : List α} {r : List β}, mapO f l = some r → ∀ (j : Nat) (x : α), l[j]? = some x → ∃ y, r[j]? = some y ∧ f x = some y := by
  intro l r h j x hx
  obtain ⟨h1, h2⟩ := mapO_some h
  have hj : j < r.length := by
    have := (List.getElem?_eq_some_iff.1 hx).1
    omega
  obtain ⟨x', e1, e2⟩ := h2 j r[j] (by simp [hj])
  rw [hx] at e1; injection e1 with e1; subst e1
  exact ⟨r[j], by simp [hj], e2⟩

/-- How many have not been listed. -/
def unl (listed : Array Bool) (n : Nat) : Nat := ((List.range n).filter fun i => !listed.getD i true).length

theorem filter_len_lt {l : List Nat} {p q : Nat → Bool} (h : ∀ x, q x = true → p x = true) {i : Nat} (hi : i ∈ l) (hp : p i = true) (hq : q i = false) : (l.filter q).length < (l.filter p).length := by
  induction l with
  | nil => simp at hi
  | cons x r ih =>
    have hle : (r.filter q).length ≤ (r.filter p).length := by
      clear ih hi
      induction r with
      | nil => simp
      | cons y s ih =>
        simp only [List.filter_cons]
        cases hy : q y with
        | true => simp [h y hy]; exact ih
        | false => cases hpy : p y <;> simp <;> omega
    rcases List.mem_cons.1 hi with rfl | hi
    · simp only [List.filter_cons, hp, hq, if_true, Bool.false_eq_true, if_false, List.length_cons]
      omega
    · have := ih hi
      simp only [List.filter_cons]
      cases hy : q x with
      | true => simp [h x hy]; exact this
      | false => cases hpy : p x <;> simp <;> omega

theorem unl_set {listed : Array Bool} {n i : Nat} (hi : i < n) (h : listed.getD i true = false) : unl (listed.setIfInBounds i true) n < unl listed n := by
  have hsz : i < listed.size := by
    rcases Nat.lt_or_ge i listed.size with h' | h'
    · exact h'
    · simp [Array.getElem?_eq_none h'] at h
  refine filter_len_lt (i := i) (fun x hx => ?_) (by simp [hi]) (by simp [h]) (by simp [hsz])
  by_cases hxi : i = x
  · subst hxi; simp [hsz] at hx
  · rw [getD_set_ne true hxi] at hx; exact hx

theorem getD_true_false {listed : Array Bool} {i : Nat} (hi : i < listed.size) : listed.getD i true = listed.getD i false := by
  simp [hi]

theorem dreg_wp {P : Program} (hm : P.follows .mixedOrders = true) {T : Table} (hT : TabOK P (compC P T) T) {ex : Exec} (hex : WpOK P (compC P T) ex) {rid : Nat} {ops : Array Oper} {as0 as : List AOper}
    (h0 : mapO (compOper P ops) ops.toList = some as0) (hE : edgesOK ops.toList 0 = true) (hD : compD T (befs ops.toList []) [] as0 = some as)
    {Γ : Ctx} {s : St} {a : Act} (hnow : Now Γ s a) {ds : List DR} {s' : St} (h : dregOps T ex s.nx as 0 { s with nx := s.nx + as.length } = some (ds, s')) (hchk : chkD ds as ds = true) :
    (Code.region rid ops true).wp P (Post Γ s .normal s') a Γ.w := by
  obtain ⟨c1, c2⟩ := compD_spec hD
  have c0 := (mapO_some h0).1
  have hlen : as.length = ops.size := by rw [c1, ← c0]; simp
  obtain ⟨t1, t2, t3, t4⟩ := dreg_trace h (L := (thas s.tm)) rfl
  have hops : ∀ {i : Nat} {o : Oper}, ops[i]? = some o → ∃ a0, as0[i]? = some a0 ∧ compOper P ops o = some a0 ∧ as[i]? = some { a0 with un := unOf T ((befs ops.toList []).getD i 0) a0 (as0.take i) 0 } ∧ fitD T ((befs ops.toList []).getD i 0) a0 (as0.take i) 0 = true := by
    intro i o ho
    obtain ⟨a0, e1, e2⟩ := mapO_get h0 i o (by simpa using ho)
    obtain ⟨k1, k2⟩ := c2 i a0 e1
    exact ⟨a0, e1, e2, by simpa using k1, by simpa using k2⟩
  have hof : ∀ {i : Nat} {ao : AOper}, as[i]? = some ao → ∃ o, ops[i]? = some o := by
    intro i ao hi
    have := (List.getElem?_eq_some_iff.1 hi).1
    exact ⟨ops[i]'(by omega), by simp [show i < ops.size by omega]⟩
  -- two that are not ordered
  have hsep0 : ∀ {i j : Nat} {ai aj : AOper} {di dj : DR}, as[i]? = some ai → as[j]? = some aj → ds[i]? = some di → ds[j]? = some dj → j < i → ((befs ops.toList []).getD i 0).testBit j = false →
      Sep T ai aj di dj ∧ Sep T aj ai dj di := by
    intro i j ai aj di dj hi hj hdi hdj hlt hb
    obtain ⟨o, ho⟩ := hof hi
    obtain ⟨p, hp⟩ := hof hj
    obtain ⟨a0, e1, e2, e3, e4⟩ := hops ho
    obtain ⟨b0, g1, g2, g3, g4⟩ := hops hp
    have ei : ai = { a0 with un := unOf T ((befs ops.toList []).getD i 0) a0 (as0.take i) 0 } := by rw [hi] at e3; injection e3
    have ej : aj = { b0 with un := unOf T ((befs ops.toList []).getD j 0) b0 (as0.take j) 0 } := by rw [hj] at g3; injection g3
    have hjt : (as0.take i)[j]? = some b0 := by rw [List.getElem?_take]; simp [hlt, g1]
    have hap := fitD_mem e4 hjt (by simpa using hb)
    simp only [apartT, Bool.and_eq_true, Bool.not_eq_true'] at hap
    have w1 := dstOut_iff hap.1.1
    have w2 := dstOut_iff hap.1.2
    have w3 : ¬ (a0.op.numbers T = true ∧ b0.op.numbers T = true) := by
      rintro ⟨x, y⟩; simp [x, y] at hap
    obtain ⟨_, _, q1, q2, _, _⟩ := t4 i ai hi
    obtain ⟨_, _, r1, r2, _, _⟩ := t4 j aj hj
    rw [hdi] at q1; injection q1 with q1; subst q1
    rw [hdj] at r1; injection r1 with r1; subst r1
    have hmem : (∀ c ∈ di.rd, c ∉ dj.dm) ∧ (∀ c ∈ di.dm, c ∉ dj.rd) ∧ (∀ c ∈ di.dm, c ∉ dj.dm) := by
      cases hmt : meets T a0.op b0.op with
      | false =>
        refine meets_rd (T := T) (o := ai) (p := aj) ?_ (dopA_rd q2) (dopA_rd r2)
        rw [ei, ej]; exact hmt
      | true =>
        have hun : j ∈ ai.un := by
          rw [ei]
          have := unOf_mem (T := T) (b := (befs ops.toList []).getD i 0) (o := a0) (k := 0) hjt (by simpa using hb) hmt
          simpa using this
        have := chkD_iff hchk i ai di hi hdi j hun dj hdj
        obtain ⟨x1, x2, x3⟩ := apartD_iff this
        exact ⟨fun c hc hc' => x2 c hc' hc, fun c hc hc' => x1 c hc' hc, fun c hc hc' => x3 c hc' hc⟩
    obtain ⟨m1, m2, m3⟩ := hmem
    subst ei; subst ej
    exact ⟨⟨w1, m1, m3, w3⟩, ⟨w2, fun c hc hc' => m2 c hc' hc, fun c hc hc' => m3 c hc' hc, fun h => w3 ⟨h.2, h.1⟩⟩⟩
  have hsep : ∀ {i j : Nat} {ai aj : AOper} {di dj : DR}, as[i]? = some ai → as[j]? = some aj → ds[i]? = some di → ds[j]? = some dj → j ≠ i → ((befs ops.toList []).getD i 0).testBit j = false → ((befs ops.toList []).getD j 0).testBit i = false →
      Sep T ai aj di dj := by
    intro i j ai aj di dj hi hj hdi hdj hne hb hb'
    rcases Nat.lt_or_gt_of_ne hne with hlt | hlt
    · exact (hsep0 hi hj hdi hdj hlt hb).1
    · exact (hsep0 hj hi hdj hdi hlt hb').2
  have hlist : ∀ (i : Nat) (o : Oper), ops.toList[i]? = some o ↔ ops[i]? = some o := fun i o => by simp
  have hltb : ∀ {i : Nat} {o : Oper}, ops[i]? = some o → ∀ j, ((befs ops.toList []).getD i 0).testBit j = true → j < i := by
    intro i o ho j hj
    exact (ahead_closed hE (D := fun _ => True) (fun _ _ _ _ _ _ _ => trivial) i o (by simpa using ho) (fun _ _ _ => trivial) j hj).2
  -- every order
  have main : ∀ (fuel : Nat) (listed : Array Bool) (a' : Act) (w' : World), listed.size = ops.size → unl listed ops.size ≤ fuel →
      (∀ i o, ops.toList[i]? = some o → listed.getD i false = true → ∀ e ∈ o.after.toList, Region.binds .any e = true → listed.getD e.on false = true) →
      Inv Γ (wsOf T (thas s.tm) as ds) (sg { s with nx := s.nx + as.length }) s.nx as.length (thas s.tm) (fun j => listed.getD j false) a' w' →
      wpAny P .any ops (Post Γ s .normal s') fuel listed a' w' := by
    intro fuel
    have fin : ∀ (listed : Array Bool) (a' : Act) (w' : World), listed.size = ops.size → Region.ready .any ops listed = [] →
        Inv Γ (wsOf T (thas s.tm) as ds) (sg { s with nx := s.nx + as.length }) s.nx as.length (thas s.tm) (fun j => listed.getD j false) a' w' → Post Γ s .normal s' .normal a' w' := by
      intro listed a' w' hsz hr hI
      have hall : ∀ i, i < ops.size → listed.getD i false = true := by
        intro i
        induction i using Nat.strongRecOn with
        | _ i ih =>
          intro hi
          cases hl : listed.getD i false with
          | true => rfl
          | false =>
            exfalso
            have : i ∈ Region.ready .any ops listed := by
              rw [mem_ready]
              refine ⟨by rw [getD_true_false (by omega)]; exact hl, ops[i], by simp [hi], fun e he hb => ?_⟩
              have hlt := edgesOK_iff hE i ops[i] (by simp [hi]) e (by simpa using he) hb
              exact ih e.on (by omega) (by omega)
            rw [hr] at this; simp at this
      obtain ⟨Γ', s2, rfl, hn2, hsg, hL, hev, hnx, hU⟩ := hI
      refine ⟨rfl, { Γ' with H := s'.H }, rfl, ?_⟩
      have heq : sg s2 = sg s' := by
        rw [hsg, t2]
        funext l
        refine foldW_agree (fun j w hj _ => ?_) rfl
        obtain ⟨o', _, e1, _, _⟩ := wsOf_get hj
        have := (List.getElem?_eq_some_iff.1 e1).1
        have := hall j (by omega)
        simpa using this
      have htm : ∀ t, tget s2.tm t = tget s'.tm t := fun t => by
        have := congrFun heq (.t t); simpa [sg] using this
      have hHe : ∀ c, hget s'.H c = hget Γ'.H c := fun c => by
        have := congrFun heq (.c c)
        simp only [sg, LV.h.injEq] at this
        rw [hn2.H]; exact this.symm
      have hnxe : s2.nx = s'.nx := by have := congrFun heq .x; simpa [sg] using this
      refine ⟨⟨rfl, ?_, ?_, ?_, hn2.df⟩, hev.reH hHe, ?_, ?_⟩
      · exact hn2.ok.part fun c ch hc => by rw [← hHe]; exact hc
      · exact (hn2.tr.congr htm (hL.trans t1.symm)).imp fun a x hx => hx.reH _
      · intro c hc; rw [← hnxe]; exact hn2.lt c hc
      · rw [← hnxe]; omega
      · intro c hc
        rcases hU c hc with h | ⟨j, _, rfl⟩ | h
        · exact .inl h
        · exact .inr (by omega)
        · exact .inr (by omega)
    induction fuel with
    | zero =>
      intro listed a' w' hsz hu hcl hI
      have hr : Region.ready .any ops listed = [] := by
        cases hr : Region.ready .any ops listed with
        | nil => rfl
        | cons x xs =>
          exfalso
          have hx : x ∈ Region.ready .any ops listed := by rw [hr]; simp
          rw [mem_ready] at hx
          obtain ⟨h1, o, ho, _⟩ := hx
          have hlt : x < ops.size := (Array.getElem?_eq_some_iff.1 ho).1
          have := unl_set hlt h1
          omega
      exact ⟨hr, fin listed a' w' hsz hr hI⟩
    | succ fuel ih =>
      intro listed a' w' hsz hu hcl hI
      refine ⟨fun hr => fin listed a' w' hsz hr hI, fun i hi => ?_⟩
      rw [mem_ready] at hi
      obtain ⟨hi0, o, ho, hedge⟩ := hi
      have hlt : i < ops.size := (Array.getElem?_eq_some_iff.1 ho).1
      have hDi : listed.getD i false = false := by rw [← getD_true_false (by omega)]; exact hi0
      obtain ⟨a0, e1, e2, e3, e4⟩ := hops ho
      obtain ⟨si, d, f1, f2, f3, f4⟩ := t4 i _ e3
      obtain ⟨g1, g2, g3⟩ := compOper_inv e2
      simp only [Nat.zero_add] at f2 f4
      have hedge' : ∀ e ∈ o.after.toList, Region.binds .any e = true → listed.getD e.on false = true := fun e he hb => hedge e (by simpa using he) hb
      have hahead := ahead_closed hE (D := fun j => listed.getD j false = true) hcl i o (by simpa using ho) hedge'
      -- one that is ordered with it has its place
      have hplace : ∀ {j : Nat} {aj : AOper} {dj : DR}, as[j]? = some aj → ds[j]? = some dj → j ≠ i → (listed.getD j false = decide (j < i)) ∨ Sep T { a0 with un := unOf T ((befs ops.toList []).getD i 0) a0 (as0.take i) 0 } aj d dj := by
        intro j aj dj hj hdj hne
        obtain ⟨oj, hoj⟩ := hof hj
        cases hb : ((befs ops.toList []).getD i 0).testBit j with
        | true =>
          obtain ⟨k1, k2⟩ := hahead j hb
          exact .inl (by rw [k1]; simp [k2])
        | false =>
          cases hb' : ((befs ops.toList []).getD j 0).testBit i with
          | true =>
            have hgt := hltb hoj i hb'
            refine .inl ?_
            have : listed.getD j false = false := by
              cases hl : listed.getD j false with
              | false => rfl
              | true =>
                exfalso
                obtain ⟨k1, _⟩ := ahead_closed hE (D := fun j => listed.getD j false = true) hcl j oj (by simpa using hoj) (hcl j oj (by simpa using hoj) hl) i hb'
                rw [hDi] at k1; simp at k1
            rw [this]
            simp; omega
          | false => exact .inr (hsep e3 hj f1 hdj hne hb hb')
      have hwi : (wsOf T (thas s.tm) as ds)[i]? = some (wOf T (thas s.tm) { a0 with un := unOf T ((befs ops.toList []).getD i 0) a0 (as0.take i) 0 } d) := wsOf_some e3 f1
      refine op_turn (Γ0 := Γ) (as := as) (ds := ds) (base := s.nx) (n := as.length) (L := (thas s.tm)) (D := fun j => listed.getD j false) (i := i) hT hex hnow.lt (by omega) hDi ho e3 f1 g1 g2 ?_ f2 f3 f4 ?_ ?_ ?_ hI
      · intro Γ2 tm2 a2 ht2
        exact wanted_ok e2 ht2
      · intro l hl
        refine (foldW_agree (fun j w hj hn => ?_) rfl)
        obtain ⟨aj, dj, x1, x2, rfl⟩ := wsOf_get hj
        simp only [Nat.zero_add]
        by_cases hji : j = i
        · subst hji; rw [hDi]; simp
        · rcases hplace x1 x2 hji with h | h
          · exact h.symm
          · exfalso
            cases l with
            | t k =>
              simp only [wOf] at hn
              split at hn
              · rename_i hk; exact (h.t k hk.1).1 hl
              · exact hn rfl
            | c c => exact h.rd c hl (wOf_chunk hn)
            | x =>
              simp only [wOf] at hn
              split at hn
              · rename_i hk; exact h.nx ⟨hl, hk⟩
              · exact hn rfl
      · refine foldW_insert hwi hDi ?_
        intro l hl j w hj hlt' hn
        obtain ⟨aj, dj, x1, x2, rfl⟩ := wsOf_get hj
        rcases hplace x1 x2 (by omega) with h | h
        · rw [h]; simp; omega
        · exfalso
          cases l with
          | t k =>
            simp only [wOf] at hn hl
            split at hn
            · rename_i hk
              split at hl
              · rename_i hk'; exact (h.t k hk.1).2 hk'.1
              · exact hl rfl
            · exact hn rfl
          | c c => exact h.dm c (wOf_chunk hl) (wOf_chunk hn)
          | x =>
            simp only [wOf] at hn hl
            split at hn
            · rename_i hk
              split at hl
              · rename_i hk'; exact h.nx ⟨hk', hk⟩
              · exact hl rfl
            · exact hn rfl
      · intro a2 w2 hI2
        have hfun : (fun j => (listed.setIfInBounds i true).getD j false) = fun j => listed.getD j false || j == i := by
          funext j
          by_cases hij : i = j
          · subst hij; simp [show i < listed.size by omega]
          · rw [getD_set_ne false hij]; simp [Ne.symm hij]
        refine ih _ a2 w2 (by simpa using hsz) ?_ ?_ ?_
        · have := unl_set hlt hi0
          omega
        · intro j oj hoj hl e he hb
          by_cases hij : i = j
          · subst hij
            have : oj = o := by
              have : ops[i]? = some oj := by simpa using hoj
              rw [ho] at this; injection this with this; exact this.symm
            subst this
            exact getD_set_true (hedge' e he hb)
          · rw [getD_set_ne false hij] at hl
            exact getD_set_true (hcl j oj hoj hl e he hb)
        · rw [hfun]; exact hI2
  obtain ⟨w1, w2⟩ := ev_world hnow.ok { Γ.w with drawn := Γ.w.drawn + 1 } rfl rfl rfl rfl
  refine wp_region_any hm (main ops.size _ a _ (by simp) ?_ ?_ ?_)
  · unfold unl
    exact Nat.le_trans (List.length_filter_le _ _) (by simp)
  · intro i o ho hl
    exfalso
    simp only [Array.getD_eq_getD_getElem?, Array.getElem?_replicate] at hl
    split at hl <;> simp at hl
  · refine ⟨{ Γ with w := { Γ.w with drawn := Γ.w.drawn + 1 } }, { s with nx := s.nx + as.length }, rfl, ⟨hnow.H, w2, ?_, ?_, hnow.df⟩, ?_, rfl, w1, Nat.le_refl _, fun c hc => .inl hc⟩
    · exact hnow.tr.imp fun a x hx => hx.ev hnow.ok w1
    · intro c hc; have := hnow.lt c hc; show c < s.nx + as.length; omega
    · rw [foldW_none]
      intro j _
      simp only [Array.getD_eq_getD_getElem?, Array.getElem?_replicate]
      split <;> rfl

end Go.Am

/- Code: what the interpreter tells, the machine does. -/
namespace Go.Am
set_option autoImplicit false
set_option linter.unusedSimpArgs false
set_option linter.unusedVariables false

theorem reg_list {P : Program} {comp : Code → Option ACode} {T : Table} (hT : TabOK P comp T) {ex : Exec} (hex : WpOK P comp ex) {ops : Array Oper} {Γ0 : Ctx} {s0 : St} {n : Nat} (hU0 : ∀ c, Γ0.U c → c < s0.nx) :
    ∀ {l : List Oper} {as : List AOper} {k : Nat} {s s' : St}, mapO (compOper P ops) l = some as → k + l.length ≤ n → regOps T ex s0.nx as k s = some s' → ∀ {Γ : Ctx} {a : Act}, Now Γ s a → Ev Γ0 Γ → s0.nx + n ≤ s.nx →
      (∀ c, Γ.U c → Γ0.U c ∨ (∃ j, j < k ∧ c = s0.nx + j) ∨ s0.nx + n ≤ c) → wpList P ops (Post Γ0 s0 .normal s') l a Γ.w
  | [], as, k, s, s', hc, hk, h, Γ, a, hnow, hev, hnx, hU => by
    simp only [mapO, Option.some.injEq] at hc; subst hc
    simp only [regOps, Option.some.injEq] at h; subst h
    refine ⟨rfl, Γ, rfl, hnow, hev, by omega, fun c hc => ?_⟩
    rcases hU c hc with h | ⟨j, _, rfl⟩ | h
    · exact .inl h
    · exact .inr (by omega)
    · exact .inr (by omega)
  | o :: l, as, k, s, s', hc, hk, h, Γ, a, hnow, hev, hnx, hU => by
    simp only [mapO] at hc
    cases ho : compOper P ops o with
    | none => simp [ho] at hc
    | some ao =>
      cases hl : mapO (compOper P ops) l with
      | none => simp [ho, hl] at hc
      | some al =>
        simp only [ho, hl, Option.some.injEq] at hc
        subst hc
        simp only [List.length_cons] at hk
        obtain ⟨g1, g2, g3⟩ := compOper_inv ho
        have hw := wanted_ok ho hnow.tr
        have hUn : ∀ c, Γ.U c → Γ0.U c ∨ (∃ j, j < k + 1 ∧ c = s0.nx + j) ∨ s0.nx + n ≤ c := fun c hc => (hU c hc).imp id fun h => h.imp (fun ⟨j, h1, h2⟩ => ⟨j, by omega, h2⟩) id
        have put_eq : ∀ (s : St) (r : AV), (s.put ao r) = { s with tm := match o.dst with
            | none => s.tm
            | some d => tset s.tm d r } := by
          intro s r
          unfold St.put
          rw [g2]
          cases o.dst <;> rfl
        simp only [regOps, opA] at h
        simp only [wpList]
        cases hg : goes s.tm ao with
        | false =>
          simp only [hg, cond_false] at h
          have hwf : Region.wanted o (yielded ops a.tmps) = false := by rw [hw, hg]
          simp only [hwf, if_false, Bool.false_eq_true]
          refine reg_list (n := n) hT hex hU0 hl (by omega) h (Γ := Γ) ⟨?_, hnow.ok, ?_, ?_, ?_⟩ hev ?_ hUn
          · rw [put_eq]; exact hnow.H
          · rw [put_eq]; exact put_ok hnow.tr o.dst (RL.v Γ _)
          · rw [put_eq]; exact hnow.lt
          · rw [put_defers]; exact hnow.df
          · rw [put_eq]; exact hnx
        | true =>
          simp only [hg, cond_true] at h
          have hwt : Region.wanted o (yielded ops a.tmps) = true := by rw [hw, hg]
          simp only [hwt, if_true]
          refine .inl ?_
          have hid : ¬ Γ.U (s0.nx + k) := by
            intro hc
            rcases hU _ hc with h | ⟨j, h, e⟩ | h
            · have := hU0 _ h; omega
            · omega
            · omega
          have key : ∀ (r : AV) (H' : Heap) (nx' : Nat), ((aop ao.op s.tm (s0.nx + k) Γ.H = some (.val r H') ∧ nx' = s.nx) ∨ ∃ g args, aop ao.op s.tm (s0.nx + k) Γ.H = some (.call g args) ∧ callF T ex (s0.nx + k) g args Γ.H s.nx = some (r, H', nx')) →
              regOps T ex s0.nx al (k + 1) (({ s with H := H', nx := nx' } : St).put ao r) = some s' → o.wp P a Γ.w (wpList P ops (Post Γ0 s0 .normal s') l) (Post Γ0 s0 .normal s') := by
            intro r H' nx' hrun hrest
            have hc' : compOp P o.op = some ao.op := by
              rcases hrun with ⟨hx, _⟩ | ⟨_, _, hx, _⟩
              · exact unbad g1 hx
              · exact unbad g1 hx
            refine op_wp (nx := s.nx) hT hex hnow.ok hid hnow.lt hnow.tr hc' hrun ?_
            intro v Γ' hb
            refine reg_list (n := n) hT hex hU0 hl (by omega) hrest (Γ := Γ') ⟨?_, hb.ok, ?_, ?_, ?_⟩ (hev.trans hb.ev) ?_ ?_
            · rw [put_eq]; exact hb.H
            · rw [put_eq]; exact put_ok (hnow.tr.imp fun a x hx => hx.ev hnow.ok hb.ev) o.dst hb.rl
            · rw [put_eq]
              intro c hc
              have := hb.nx
              rcases hb.lt c hc with rfl | h
              · show s0.nx + k < nx'
                have h5 : s.nx ≤ nx' := hb.nx
                omega
              · exact h
            · rw [put_defers]; exact hnow.df
            · rw [put_eq]
              have := hb.nx
              show s0.nx + n ≤ nx'
              omega
            · intro c hc
              rcases hb.U c hc with h | rfl | h
              · exact hUn c h
              · exact .inr (.inl ⟨k, by omega, rfl⟩)
              · exact .inr (.inr (by omega))
          rw [← hnow.H] at h
          cases ha : aop ao.op s.tm (s0.nx + k) Γ.H with
          | none => simp [ha] at h
          | some x =>
            cases x with
            | val r H' =>
              simp only [ha] at h
              refine key r H' s.nx (.inl ⟨ha, rfl⟩) ?_
              exact h
            | call g args =>
              simp only [ha] at h
              cases hcf : callF T ex (s0.nx + k) g args Γ.H s.nx with
              | none => simp [hcf] at h
              | some y =>
                obtain ⟨r, H', nx'⟩ := y
                simp only [hcf] at h
                exact key r H' nx' (.inr ⟨g, args, ha, hcf⟩) h

theorem reg_wp {P : Program} {comp : Code → Option ACode} {T : Table} (hT : TabOK P comp T) {ex : Exec} (hex : WpOK P comp ex) {rid : Nat} {ops : Array Oper} {as : List AOper}
    (h0 : mapO (compOper P ops) ops.toList = some as) {Γ : Ctx} {s : St} {a : Act} (hnow : Now Γ s a) {s' : St} (h : regOps T ex s.nx as 0 { s with nx := s.nx + as.length } = some s') :
    (Code.region rid ops false).wp P (Post Γ s .normal s') a Γ.w := by
  refine wp_region ?_
  have e : List.range ops.size = List.range' 0 ops.toList.length := by simp [List.range_eq_range']
  rw [e, wpOps_eq_wpList ops.toList 0 (fun j => by simp)]
  have hl := (mapO_some h0).1
  refine reg_list hT hex (s0 := s) (n := as.length) hnow.lt h0 (by omega) h (Γ := Γ) ⟨hnow.H, hnow.ok, hnow.tr, fun c hc => ?_, hnow.df⟩ (Ev.refl Γ) (Nat.le_refl _) (fun c hc => .inl hc)
  have := hnow.lt c hc
  show c < s.nx + as.length
  omega

theorem Post.trans {Γ Γ1 : Ctx} {s s1 s' : St} {a1 : Act} {e : AEx} (h : Goes Γ s s1 Γ1 a1) {e' : Exit} {a' : Act} {w' : World} (k : Post Γ1 s1 e s' e' a' w') : Post Γ s e s' e' a' w' := by
  obtain ⟨k1, Γ2, k2, k3⟩ := k
  exact ⟨k1, Γ2, k2, h.trans k3⟩

theorem rounds_mono {P : Program} {c : Code} {Q Q' : Exit → Act → World → Prop} (h : ∀ e a w, Q e a w → Q' e a w) : ∀ (n : Nat) (a : Act) (w : World), Code.rounds P c Q n a w → Code.rounds P c Q' n a w
  | 0, a, w, k => k.elim
  | n + 1, a, w, k => wp_mono k fun e a w q => by
    cases e with
    | normal => exact rounds_mono h n a w q
    | _ => exact h _ _ _ q

def wpSc (P : Program) (body cur : Code) (Q : Exit → Act → World → Prop) (a : Act) (w : World) : Prop :=
  ∀ (b : Frame) (k : List Item) (cs : List Frame), ∃ e a' w', Q e a' w' ∧ Arrives P (lone (b.at a (.code cur :: .inScope body :: k)) cs w) b k cs e a' w'

theorem findL_ok {P : Program} {T : Table} {l : Nat} : ∀ {c : Code} {c' : ACode}, compC P T c = some c' → match findL c' l with
    | none => findLabel c l = none
    | some r' => ∃ r, findLabel c l = some r ∧ compC P T r = some r'
  | .seq x y, c', h => by
    simp only [compC] at h
    cases hx : compC P T x with
    | none => simp [hx] at h
    | some x' =>
      cases hy : compC P T y with
      | none => simp [hx, hy] at h
      | some y' =>
        simp only [hx, hy, Option.some.injEq] at h
        subst h
        have ix := findL_ok (l := l) hx
        have iy := findL_ok (l := l) hy
        simp only [findL, findLabel]
        cases hfx : findL x' l with
        | some r =>
          rw [hfx] at ix
          obtain ⟨r0, e1, e2⟩ := ix
          exact ⟨.seq r0 y, by rw [e1], by simp [compC, e2, hy]⟩
        | none =>
          rw [hfx] at ix
          simp only [] at ix
          rw [ix]
          exact iy
  | .label l', c', h => by
    simp only [compC, Option.some.injEq] at h
    subst h
    simp only [findL, findLabel]
    by_cases hl : l' = l
    · subst hl; simp [compC]
    · have : Nat.beq l' l = false := nbeq_false hl
      simp [this, hl]
  | .skip, c', h => by simp only [compC, Option.some.injEq] at h; subst h; rfl
  | .region _ ops draw, c', h => by
    simp only [compC, compRegion] at h
    split at h
    · simp at h
    · cases draw with
      | false => simp only [cond_false, Option.some.injEq] at h; subst h; rfl
      | true =>
        simp only [cond_true] at h
        cases he : edgesOK ops.toList 0 with
        | false => simp [he] at h
        | true =>
          simp only [he, cond_true] at h
          obtain ⟨_, _, rfl⟩ := Option.map_eq_some_iff.1 h
          rfl
  | .cond c x y, c', h => by
    simp only [compC] at h
    split at h
    · simp only [Option.some.injEq] at h; subst h; rfl
    · simp at h
  | .block id c, c', h => by simp only [compC] at h; obtain ⟨_, _, rfl⟩ := Option.map_eq_some_iff.1 h; rfl
  | .loop c, c', h => by simp only [compC] at h; obtain ⟨_, _, rfl⟩ := Option.map_eq_some_iff.1 h; rfl
  | .scope c, c', h => by simp only [compC] at h; obtain ⟨_, _, rfl⟩ := Option.map_eq_some_iff.1 h; rfl
  | .exit id, c', h => by simp only [compC, Option.some.injEq] at h; subst h; rfl
  | .goto id, c', h => by simp only [compC, Option.some.injEq] at h; subst h; rfl
  | .ret, c', h => by simp only [compC, Option.some.injEq] at h; subst h; rfl
  | .rangeFunc _ _ _ _, c', h => by simp [compC] at h
  | .refuse _, c', h => by simp [compC] at h

structure ExOK (P : Program) (T : Table) (n : Nat) : Prop where
  wp : WpOK P (compC P T) (exec T n)
  loop : ∀ (c : Code) (c' : ACode) (s : St) (e : AEx) (s' : St), compC P T c = some c' → exec T n (.loop c') s = some (e, s') → ∀ (Γ : Ctx) (a : Act), Now Γ s a → Code.rounds P c (Post Γ s e s') n a Γ.w
  scope : ∀ (body cur : Code) (b' c' : ACode) (s : St) (e : AEx) (s' : St), compC P T body = some b' → compC P T cur = some c' → exec T n (.scope b' c') s = some (e, s') → ∀ (Γ : Ctx) (a : Act), Now Γ s a → wpSc P body cur (Post Γ s e s') a Γ.w

theorem exec_ok {P : Program} (hm : P.follows .mixedOrders = true) {T : Table} (hT : TabOK P (compC P T) T) : ∀ n, ExOK P T n
  | 0 => ⟨fun c c' s e s' _ h => by simp [exec] at h, fun c c' s e s' _ h => by simp [exec] at h, fun b c b' c' s e s' _ _ h => by simp [exec] at h⟩
  | n + 1 => by
    have ih := exec_ok hm hT n
    have hloop : ∀ (c : Code) (c' : ACode) (s : St) (e : AEx) (s' : St), compC P T c = some c' → exec T (n + 1) (.loop c') s = some (e, s') → ∀ (Γ : Ctx) (a : Act), Now Γ s a → Code.rounds P c (Post Γ s e s') (n + 1) a Γ.w := by
      intro c c' s e s' hc h Γ a hnow
      simp only [exec, step] at h
      rw [rounds_succ]
      cases h1 : exec T n c' s with
      | none => simp [h1] at h
      | some x =>
        obtain ⟨e1, s1⟩ := x
        refine wp_mono (ih.wp c c' s e1 s1 hc h1 Γ a hnow) ?_
        rintro ex a1 w1 ⟨rfl, Γ1, rfl, hg⟩
        cases e1 with
        | normal =>
          simp only [h1] at h
          exact rounds_mono (fun e a w q => Post.trans hg q) n _ _ (ih.loop c c' s1 e s' hc h Γ1 a1 hg.now)
        | _ =>
          simp only [h1, Option.some.injEq, Prod.mk.injEq] at h
          obtain ⟨rfl, rfl⟩ := h
          exact ⟨rfl, Γ1, rfl, hg⟩
    have hscope : ∀ (body cur : Code) (b' c' : ACode) (s : St) (e : AEx) (s' : St), compC P T body = some b' → compC P T cur = some c' → exec T (n + 1) (.scope b' c') s = some (e, s') → ∀ (Γ : Ctx) (a : Act), Now Γ s a → wpSc P body cur (Post Γ s e s') a Γ.w := by
      intro body cur b' c' s e s' hb hc h Γ a hnow b k cs
      simp only [exec, step] at h
      cases h1 : exec T n c' s with
      | none => simp [h1] at h
      | some x =>
        obtain ⟨e1, s1⟩ := x
        obtain ⟨ex, a1, w1, ⟨rfl, Γ1, rfl, hg⟩, harr⟩ := ih.wp cur c' s e1 s1 hc h1 Γ a hnow b (.inScope body :: k) cs
        cases e1 with
        | normal =>
          simp only [h1, Option.some.injEq, Prod.mk.injEq] at h
          obtain ⟨rfl, rfl⟩ := h
          exact ⟨.normal, a1, Γ1.w, ⟨rfl, Γ1, rfl, hg⟩, Steps.trans harr (.one step_inScope)⟩
        | exit id =>
          simp only [h1, Option.some.injEq, Prod.mk.injEq] at h
          obtain ⟨rfl, rfl⟩ := h
          exact ⟨.exit id, a1, Γ1.w, ⟨rfl, Γ1, rfl, hg⟩, fun k' hk => harr k' (by simp [exitTo, hk])⟩
        | ret =>
          simp only [h1, Option.some.injEq, Prod.mk.injEq] at h
          obtain ⟨rfl, rfl⟩ := h
          exact ⟨.ret, a1, Γ1.w, ⟨rfl, Γ1, rfl, hg⟩, harr⟩
        | goto l =>
          simp only [h1] at h
          have hf := findL_ok (l := l) hb
          cases hfl : findL b' l with
          | none =>
            simp only [hfl, Option.some.injEq, Prod.mk.injEq] at h hf
            obtain ⟨rfl, rfl⟩ := h
            exact ⟨.goto l, a1, Γ1.w, ⟨rfl, Γ1, rfl, hg⟩, fun k' hk => harr k' (by simp [gotoIn, hf, hk])⟩
          | some r' =>
            simp only [hfl] at h hf
            obtain ⟨r, e1, e2⟩ := hf
            obtain ⟨ex, a2, w2, hq, harr2⟩ := ih.scope body r b' r' s1 e s' hb e2 h Γ1 a1 hg.now b k cs
            exact ⟨ex, a2, w2, Post.trans hg hq, .of_steps (harr _ (by simp [gotoIn, e1])) harr2⟩
    refine ⟨?_, hloop, hscope⟩
    intro c c' s e s' hc h Γ a hnow
    cases c with
    | skip =>
      simp only [compC, Option.some.injEq] at hc; subst hc
      simp only [exec, step, Option.some.injEq, Prod.mk.injEq] at h
      obtain ⟨rfl, rfl⟩ := h
      exact wp_skip ⟨rfl, Γ, rfl, .refl hnow⟩
    | label l =>
      simp only [compC, Option.some.injEq] at hc; subst hc
      simp only [exec, step, Option.some.injEq, Prod.mk.injEq] at h
      obtain ⟨rfl, rfl⟩ := h
      exact wp_label ⟨rfl, Γ, rfl, .refl hnow⟩
    | exit id =>
      simp only [compC, Option.some.injEq] at hc; subst hc
      simp only [exec, step, Option.some.injEq, Prod.mk.injEq] at h
      obtain ⟨rfl, rfl⟩ := h
      exact wp_exit ⟨rfl, Γ, rfl, .refl hnow⟩
    | goto id =>
      simp only [compC, Option.some.injEq] at hc; subst hc
      simp only [exec, step, Option.some.injEq, Prod.mk.injEq] at h
      obtain ⟨rfl, rfl⟩ := h
      exact wp_goto ⟨rfl, Γ, rfl, .refl hnow⟩
    | ret =>
      simp only [compC, Option.some.injEq] at hc; subst hc
      simp only [exec, step, Option.some.injEq, Prod.mk.injEq] at h
      obtain ⟨rfl, rfl⟩ := h
      exact wp_ret ⟨rfl, Γ, rfl, .refl hnow⟩
    | seq x y =>
      simp only [compC] at hc
      cases hx : compC P T x with
      | none => simp [hx] at hc
      | some x' =>
        cases hy : compC P T y with
        | none => simp [hx, hy] at hc
        | some y' =>
          simp only [hx, hy, Option.some.injEq] at hc
          subst hc
          simp only [exec, step] at h
          cases h1 : exec T n x' s with
          | none => simp [h1] at h
          | some z =>
            obtain ⟨e1, s1⟩ := z
            refine wp_seq (wp_mono (ih.wp x x' s e1 s1 hx h1 Γ a hnow) ?_)
            rintro ex a1 w1 ⟨rfl, Γ1, rfl, hg⟩
            cases e1 with
            | normal =>
              simp only [h1] at h
              exact wp_mono (ih.wp y y' s1 e s' hy h Γ1 a1 hg.now) fun e a w q => Post.trans hg q
            | _ =>
              simp only [h1, Option.some.injEq, Prod.mk.injEq] at h
              obtain ⟨rfl, rfl⟩ := h
              exact ⟨rfl, Γ1, rfl, hg⟩
    | cond z x y =>
      simp only [compC] at hc
      split at hc
      · rename_i z' x' y' hz hx hy
        simp only [Option.some.injEq] at hc
        subst hc
        simp only [exec, step] at h
        have hr := compO_ok hnow.tr hz
        split at h
        · rename_i e1
          rw [e1] at hr
          exact wp_cond_true hr.v_inv (ih.wp x x' s e s' hx h Γ a hnow)
        · rename_i e1
          rw [e1] at hr
          exact wp_cond_false hr.v_inv (ih.wp y y' s e s' hy h Γ a hnow)
        · simp at h
      · simp at hc
    | block id x =>
      simp only [compC] at hc
      obtain ⟨x', hx, rfl⟩ := Option.map_eq_some_iff.1 hc
      simp only [exec, step] at h
      cases h1 : exec T n x' s with
      | none => simp [h1] at h
      | some z =>
        obtain ⟨e1, s1⟩ := z
        refine wp_block (wp_mono (ih.wp x x' s e1 s1 hx h1 Γ a hnow) ?_)
        rintro ex a1 w1 ⟨rfl, Γ1, rfl, hg⟩
        cases e1 with
        | exit id' =>
          simp only [h1] at h
          by_cases hi : id' = id
          · subst hi
            simp only [Nat.beq_refl, cond_true, Option.some.injEq, Prod.mk.injEq] at h
            obtain ⟨rfl, rfl⟩ := h
            simp only [exOf, Exit.inBlock, if_true]
            exact ⟨rfl, Γ1, rfl, hg⟩
          · simp only [nbeq_false hi, cond_false, Option.some.injEq, Prod.mk.injEq] at h
            obtain ⟨rfl, rfl⟩ := h
            simp only [exOf, Exit.inBlock, hi, if_false]
            exact ⟨rfl, Γ1, rfl, hg⟩
        | _ =>
          simp only [h1, Option.some.injEq, Prod.mk.injEq] at h
          obtain ⟨rfl, rfl⟩ := h
          exact ⟨rfl, Γ1, rfl, hg⟩
    | loop x =>
      simp only [compC] at hc
      obtain ⟨x', hx, rfl⟩ := Option.map_eq_some_iff.1 hc
      exact wp_loop_rounds (n + 1) (hloop x x' s e s' hx h Γ a hnow)
    | scope x =>
      simp only [compC] at hc
      obtain ⟨x', hx, rfl⟩ := Option.map_eq_some_iff.1 hc
      intro b k cs
      obtain ⟨ex, a1, w1, hq, harr⟩ := hscope x x x' x' s e s' hx hx h Γ a hnow b k cs
      exact ⟨ex, a1, w1, hq, .of_steps (.one step_scope) harr⟩
    | region rid ops draw =>
      simp only [compC, compRegion] at hc
      split at hc
      · simp at hc
      · rename_i as0 h0
        cases draw with
        | false =>
          simp only [cond_false, Option.some.injEq] at hc
          subst hc
          simp only [exec, step] at h
          obtain ⟨s2, h2, h3⟩ := Option.map_eq_some_iff.1 h
          simp only [Prod.mk.injEq] at h3
          obtain ⟨rfl, rfl⟩ := h3
          exact reg_wp hT ih.wp h0 hnow h2
        | true =>
          simp only [cond_true] at hc
          cases he : edgesOK ops.toList 0 with
          | false => simp [he] at hc
          | true =>
            simp only [he, cond_true] at hc
            obtain ⟨as, has, rfl⟩ := Option.map_eq_some_iff.1 hc
            simp only [exec, step] at h
            split at h
            · simp at h
            · rename_i ds s2 hd
              cases hck : chkD ds as ds with
              | false => simp [hck] at h
              | true =>
                simp only [hck, cond_true, Option.some.injEq, Prod.mk.injEq] at h
                obtain ⟨rfl, rfl⟩ := h
                exact dreg_wp hm hT ih.wp h0 he has hnow hd hck
    | rangeFunc => simp [compC] at hc
    | refuse => simp [compC] at hc

end Go.Am

/- A call from outside, and what it leaves. -/
namespace Go.Am
set_option autoImplicit false
set_option linter.unusedSimpArgs false
set_option linter.unusedVariables false
open Go.RowKit (Below)

def EntOK (P : Program) (T : Table) (g : Nat) : AEntry → Prop
  | .code f m => FunOK P (compC P T) g f ∧ ∀ b args, m b args = none
  | .prim p => PrimOK P g p
def Tab.All (p : Nat → AEntry → Prop) : Tab → Prop
  | .nil => True
  | .node l k e r => l.All p ∧ p k e ∧ r.All p
theorem Tab.get_all {p : Nat → AEntry → Prop} : ∀ {t : Tab}, t.All p → ∀ {g : Nat} {e : AEntry}, t.get g = some e → p g e
  | .nil, _, g, e, h => by simp [Tab.get] at h
  | .node l k x r, ha, g, e, h => by
    obtain ⟨h1, h2, h3⟩ := ha
    simp only [Tab.get] at h
    by_cases hk : g = k
    · subst hk
      simp only [Nat.beq_refl, cond_true, Option.some.injEq] at h
      subst h; exact h2
    · simp only [nbeq_false hk, cond_false] at h
      cases hb : Nat.blt g k with
      | true => simp only [hb, cond_true] at h; exact Tab.get_all h1 h
      | false => simp only [hb, cond_false] at h; exact Tab.get_all h3 h
theorem tabOK_of {P : Program} {t : Tab} (h : t.All (EntOK P t.get)) : TabOK P (compC P t.get) t.get :=
  ⟨fun g f m hg => (Tab.get_all h hg : FunOK _ _ g f ∧ _).1, fun g f m hg b args r hm => by
    have := (Tab.get_all h hg : FunOK _ _ g f ∧ ∀ b args, m b args = none).2 b args
    rw [this] at hm; simp at hm, fun g p hg => Tab.get_all h hg⟩

theorem runA_calls {P : Program} (hm : P.follows .mixedOrders = true) {T : Table} (hT : TabOK P (compC P T) T) {n g : Nat} {args : List AV} {r : AV} (h : runA T n g args = some r)
    {w : World} {vs : Array Value} (hargs : All2 (RT (fun b => b < w.heap.size) w) args vs.toList) :
    Calls P g vs w fun e w' => ∃ v, e = .returned v ∧ Below w.heap.size w w' ∧ RT (fun b => b < w'.heap.size) w' r v := by
  unfold runA at h
  cases hg : T g with
  | none => simp [hg] at h
  | some x =>
    cases x with
    | prim p => simp [hg] at h
    | code f m =>
      simp only [hg] at h
      cases hr : runF (exec T n) f args [] 0 with
      | none => simp [hr] at h
      | some y =>
        obtain ⟨r0, H, nx⟩ := y
        simp only [hr] at h
        let Γ : Ctx := { H := [], U := fun _ => False, blk := fun _ => 0, siz := fun _ => 0, F := fun b => b < w.heap.size, w := w }
        have hR : HRel Γ := ⟨fun c ch h => by simp [Γ, hget] at h, fun c c' ch ch' h => by simp [Γ, hget] at h, fun c ch h => by simp [Γ, hget] at h, fun b hb => hb⟩
        have hrun := run_ok (exec_ok hm hT n).wp (hT.code g f m hg)
        have := hrun args [] 0 r0 H nx hr Γ vs rfl hR (fun c hc => hc.elim) (hargs.imp fun a x hx => .tree hx) 0
        refine this.mono ?_
        rintro e w' ⟨v, Γ', rfl, rfl, hb⟩
        refine ⟨v, rfl, ⟨hb.ev.os, hb.ev.tape, hb.ev.output, hb.ev.size, fun k hk => (hb.ev.frame k hk (fun c ch h => by simp [Γ, hget] at h)).1⟩, ?_⟩
        refine frz_ok hb.ok (Fx := fun b => b < Γ'.w.heap.size) (fun _ b hF => hb.ok.bnd b hF) depthA (by rw [hb.H]; exact h) hb.rl (fun _ c ch hc => ?_)
        obtain ⟨_, arr, h1, _⟩ := hb.ok.ok c ch hc
        exact heap_lt h1

def isT : Option AV → Bool
  | some (.v (.bool b)) => b
  | _ => false

theorem law_calls {P : Program} (hm : P.follows .mixedOrders = true) {T : Table} (hT : TabOK P (compC P T) T) {n g : Nat} {args : List AV} (h : isT (runA T n g args) = true)
    {w : World} {vs : Array Value} (hargs : All2 (RT (fun b => b < w.heap.size) w) args vs.toList) :
    Calls P g vs w fun e w' => e = .returned (.bool true) ∧ Below w.heap.size w w' := by
  have : runA T n g args = some (.v (.bool true)) := by
    cases hr : runA T n g args with
    | none => simp [hr, isT] at h
    | some x =>
      rw [hr] at h
      cases x with
      | v y => cases y <;> simp_all [isT]
      | _ => simp [isT] at h
  refine (runA_calls hm hT this hargs).mono ?_
  rintro e w' ⟨v, rfl, hb, hr⟩
  cases hr
  exact ⟨rfl, hb⟩

/-- An argument's cells as they are. -/
theorem rt_agg {F : Nat → Prop} {w : World} (vs : Array Value) : RT F w (.agg (vs.toList.map .v)) (.agg vs) :=
  .agg _ vs (by simp) (fun j a x ha hx => by
    simp only [List.getElem?_map, Option.map_eq_some_iff] at ha
    obtain ⟨y, hy, rfl⟩ := ha
    have : vs[j]? = some y := by simpa using hy
    rw [hx] at this; injection this with this; subst this
    exact .v x)

end Go.Am

/- The comparison of two strings, which has no text in Go. -/
namespace Go.Am
set_option autoImplicit false
set_option linter.unusedVariables false
theorem cmp_prim {P : Program} {g : Nat} {fn : Func} (hf : P.funcs[g]? = some fn) (hn : (fn.name == "runtime.NumGoroutine") = false) (hb : fn.body = none) (hx : Extern.findNext fn = none) (he : Extern.find fn = some Extern.BytealgCompare.compare) : PrimOK P g cmpA := by
  intro Γ args vs id nx r H' h hR hid hU hargs
  unfold cmpA at h
  split at h
  · rename_i a b
    simp only [Option.some.injEq, Prod.mk.injEq] at h
    obtain ⟨rfl, rfl⟩ := h
    have hn' : ¬ fn.name = "runtime.NumGoroutine" := by simpa using hn
    obtain ⟨l⟩ := vs
    have hl := hargs.1
    match l, hl with
    | [x, y], _ =>
      have h0 := hargs.2 0 _ x rfl rfl
      have h1 := hargs.2 1 _ y rfl rfl
      have := h0.v_inv; subst this
      have := h1.v_inv; subst this
      refine .inr ⟨.int .i64 (Extern.BytealgCompare.cmp a b), Γ, ?_, ⟨rfl, Ev.refl Γ, hR, RL.v Γ _, fun c hc => .inl hc, fun c hc => .inr (hU c hc), Nat.le_refl _⟩⟩
      have hc : (Extern.BytealgCompare.compare #[.string a, .string b]).run P Γ.w = .ok (.int .i64 (Extern.BytealgCompare.cmp a b)) Γ.w := rfl
      simp [callFunc, hf, hn', hb, hx, he, hc]
  · simp at h
end Go.Am

/- The shape of an argument that is a struct. -/
namespace Go.Am
set_option autoImplicit false
set_option linter.unusedSimpArgs false
set_option linter.unusedVariables false

def structB (P : Program) (t : TypeId) : Bool := match P.underlying t with
  | some (.struct _) => true
  | _ => false
theorem okWide_cells {P : Program} {w : World} {r : Reach} {base : Nat} {t : TypeId} {v : Value} (hs : structB P t = true) (h : Value.okWide P w r base t v) : ∃ cs, v = .agg cs ∧ cs.size = P.cellsOf t ∧ Row.okWide P w r base t cs := by
  unfold structB at hs
  split at hs
  · rename_i fs hu
    simp only [Value.okWide, hu] at h
    exact h
  · simp at hs

def sliceAt (P : Program) (t : TypeId) (i : Nat) : Bool := match P.cellTypes P.depth t with
  | none => false
  | some ts => match ts[i % ts.length]? with
    | none => false
    | some u => match P.underlying u with
      | some (.slice _) => true
      | _ => false
theorem row_slice {P : Program} {w : World} {r : Reach} {base : Nat} {t : TypeId} {cs : Array Value} (h : Row.okWide P w r base t cs) {i : Nat} {v : Value} (hv : cs[i]? = some v) (hs : sliceAt P t i = true) : ∃ a n c, v = .slice a n c := by
  obtain ⟨ts, h1, h2, h3⟩ := h
  obtain ⟨u, h4, h5⟩ := h3 i v hv
  unfold sliceAt at hs
  rw [h1] at hs
  simp only [h4] at hs
  split at hs
  · rename_i e hu
    simp only [Cell.okWide, hu] at h5
    cases v <;> simp_all [Cell.ok]
  · simp at hs

theorem len12 {α : Type} {l : List α} (h : l.length = 12) : ∃ a b c d e f g i j k m n, l = [a, b, c, d, e, f, g, i, j, k, m, n] := by
  match l, h with
  | [a, b, c, d, e, f, g, i, j, k, m, n], _ => exact ⟨a, b, c, d, e, f, g, i, j, k, m, n, rfl⟩

end Go.Am

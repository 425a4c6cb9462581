import Derived.Test.YtgkokjkoifdbnaaGreatFrz
/- Calls: what the table's functions do; what a function hands back. -/
namespace Go.Am
set_option autoImplicit false
set_option linter.unusedSimpArgs false
set_option linter.unusedVariables false

/-- What a call of function g comes to. -/
def CallDoes (P : Program) (g : Nat) (vs : Array Value) (Γ : Ctx) (id nx nx' : Nat) (r : AV) (H' : Heap) : Prop :=
  ((callFunc g vs).run P Γ.w = .ok (.enter g vs) Γ.w ∧ Ret P g vs Γ id nx nx' r H') ∨
  (∃ v Γ', (callFunc g vs).run P Γ.w = .ok (.value v) Γ'.w ∧ Back Γ id nx nx' r H' v Γ')

def PrimOK (P : Program) (g : Nat) (p : Nat → List AV → Heap → Option (AV × Heap)) : Prop :=
  ∀ (Γ : Ctx) (args : List AV) (vs : Array Value) (id nx : Nat) (r : AV) (H' : Heap), p id args Γ.H = some (r, H') → HRel Γ → ¬ Γ.U id → (∀ c, Γ.U c → c < nx) → All2 (RL Γ) args vs.toList →
    CallDoes P g vs Γ id nx nx r H'

def compRes (P : Program) : ResultVar → Option ARes
  | .tmp t => some (.t t)
  | .cell a t => match P.underlying t, P.info? t with
    | some d, some i => some (.cell a (aggD d) i.size)
    | _, _ => none

def resSem (tmps : Array Value) : ResultVar → Sem Value
  | .tmp t => pure (tmps.getD t undef)
  | .cell c t => do loadVar t (← asAddr (tmps.getD c undef))

theorem compRes_ok {P : Program} {Γ : Ctx} (hR : HRel Γ) {tm : TM} {a : Act} (ht : TR Γ tm a) {x : ResultVar} {y : ARes} (hc : compRes P x = some y) {r : AV} (h : resA tm Γ.H y = some r) :
    ∃ v, (resSem a.tmps x).run P Γ.w = .ok v Γ.w ∧ RL Γ r v := by
  cases x with
  | tmp t =>
    simp only [compRes, Option.some.injEq] at hc; subst hc
    simp only [resA, Option.some.injEq] at h; subst h
    exact ⟨_, rfl, ht.get t⟩
  | cell c t =>
    simp only [compRes] at hc
    split at hc
    · rename_i d i hu hi
      simp only [Option.some.injEq] at hc; subst hc
      simp only [resA] at h
      have hr := ht.get c
      obtain ⟨v, h1, h2⟩ := load_same (P := P) hR hu hi hr h
      have key : ∃ ad, a.tmps.getD c undef = .pointer (some ad) := by
        generalize htm : tget tm c = x at hr h
        cases x with
        | ptr _ off => obtain ⟨b, e, _⟩ := hr.ptr_inv; exact ⟨_, e⟩
        | eptr cells => obtain ⟨b, off, f, e, _⟩ := hr.eptr_inv.eptr_inv; exact ⟨_, e⟩
        | _ => simp [loadA] at h
      obtain ⟨ad, e⟩ := key
      refine ⟨v, ?_, h2⟩
      rw [e] at h1
      simp only [resSem, e]
      exact h1
    · simp at hc

def compRess (P : Program) (rs : Array ResultVar) : Option (List ARes) := mapO (compRes P) rs.toList

theorem ress_ok {P : Program} {Γ : Ctx} (hR : HRel Γ) {tm : TM} {a : Act} (ht : TR Γ tm a) : ∀ {xs : List ResultVar} {ys : List ARes} {rs : List AV}, mapO (compRes P) xs = some ys → mapO (resA tm Γ.H) ys = some rs →
    ∃ vs : List Value, (xs.mapM (resSem a.tmps)).run P Γ.w = .ok vs Γ.w ∧ All2 (RL Γ) rs vs
  | [], ys, rs, h1, h2 => by
    simp only [mapO, Option.some.injEq] at h1; subst h1
    simp only [mapO, Option.some.injEq] at h2; subst h2
    exact ⟨[], rfl, .nil _⟩
  | x :: xs, ys, rs, h1, h2 => by
    simp only [mapO] at h1
    cases hx : compRes P x with
    | none => simp [hx] at h1
    | some y =>
      cases hxs : mapO (compRes P) xs with
      | none => simp [hx, hxs] at h1
      | some yt =>
        simp only [hx, hxs, Option.some.injEq] at h1; subst h1
        simp only [mapO] at h2
        cases hy : resA tm Γ.H y with
        | none => simp [hy] at h2
        | some r =>
          cases hys : mapO (resA tm Γ.H) yt with
          | none => simp [hy, hys] at h2
          | some rt =>
            simp only [hy, hys, Option.some.injEq] at h2; subst h2
            obtain ⟨v, e1, r1⟩ := compRes_ok hR ht hx hy
            obtain ⟨vs, e2, r2⟩ := ress_ok hR ht hxs hys
            refine ⟨v :: vs, ?_, .cons r1 r2⟩
            simp [List.mapM_cons, e1, e2]

theorem results_ok {P : Program} {Γ : Ctx} (hR : HRel Γ) {tm : TM} {a : Act} (ht : TR Γ tm a) {fn : Func} {ys : List ARes} (hc : compRess P fn.results = some ys) {r : AV} (h : resultsA tm Γ.H ys = some r) :
    ∃ v, (results fn a.tmps).run P Γ.w = .ok v Γ.w ∧ RL Γ r v := by
  have e : results fn a.tmps = (do let vs ← fn.results.mapM (resSem a.tmps); pure (if h : vs.size = 1 then vs[0] else .tuple vs)) := by
    unfold results
    congr 1
  rw [e, Array.mapM_eq_mapM_toList]
  simp only [resultsA] at h
  cases hm : mapO (resA tm Γ.H) ys with
  | none => simp [hm] at h
  | some rs =>
    obtain ⟨vs, e1, r1⟩ := ress_ok hR ht hc hm
    simp only [hm] at h
    match rs, vs, r1, h with
    | [x], vs, r1, h =>
      obtain ⟨y, ys, rfl, hy, hys⟩ := r1.uncons
      have : ys = [] := List.eq_nil_of_length_eq_zero hys.1.symm
      subst this
      simp only [Option.some.injEq] at h; subst h
      exact ⟨y, by simp [e1], hy⟩
    | [], vs, r1, h =>
      have : vs = [] := List.eq_nil_of_length_eq_zero r1.1.symm
      subst this
      simp only [Option.some.injEq] at h; subst h
      exact ⟨.tuple #[], by simp [e1], .tup _ _ rfl (fun j a x ha => by simp at ha)⟩
    | x1 :: x2 :: rs, vs, r1, h =>
      simp only [Option.some.injEq] at h; subst h
      have hl := r1.1
      refine ⟨.tuple vs.toArray, ?_, .tup _ _ (by simpa using hl) (fun j a x ha hx => r1.2 j a x ha (by simpa using hx))⟩
      have : ¬ vs.length = 1 := by simp at hl; omega
      simp [e1, this]

/-! ### The interpreter's word on code -/
def exOf : AEx → Exit
  | .normal => .normal
  | .exit id => .exit id
  | .goto l => .goto l
  | .ret => .ret

/-- A state of the interpreter and one of the machine. -/
structure Now (Γ : Ctx) (s : St) (a : Act) : Prop where
  H : Γ.H = s.H
  ok : HRel Γ
  tr : TR Γ s.tm a
  lt : ∀ c, Γ.U c → c < s.nx
  df : a.defers = []

structure Goes (Γ : Ctx) (s s' : St) (Γ' : Ctx) (a' : Act) : Prop where
  now : Now Γ' s' a'
  ev : Ev Γ Γ'
  nx : s.nx ≤ s'.nx
  U : ∀ c, Γ'.U c → Γ.U c ∨ s.nx ≤ c

theorem Goes.refl {Γ : Ctx} {s : St} {a : Act} (h : Now Γ s a) : Goes Γ s s Γ a := ⟨h, Ev.refl Γ, Nat.le_refl _, fun _ h => .inl h⟩
theorem Goes.trans {Γ Γ' Γ'' : Ctx} {s s' s'' : St} {a' a'' : Act} (h : Goes Γ s s' Γ' a') (k : Goes Γ' s' s'' Γ'' a'') : Goes Γ s s'' Γ'' a'' :=
  ⟨k.now, h.ev.trans k.ev, Nat.le_trans h.nx k.nx, fun c hc => (k.U c hc).elim (fun hc => h.U c hc) (fun hc => .inr (Nat.le_trans h.nx hc))⟩

def Post (Γ : Ctx) (s : St) (e : AEx) (s' : St) : Exit → Act → World → Prop := fun e' a' w' => e' = exOf e ∧ ∃ Γ', Γ'.w = w' ∧ Goes Γ s s' Γ' a'

/-- How functions are looked up. -/
structure FunOK (P : Program) (comp : Code → Option ACode) (g : Nat) (f : AFun) : Prop where
  ok : ∃ fn c, P.funcs[g]? = some fn ∧ (fn.name == "runtime.NumGoroutine") = false ∧ fn.body = some c ∧ comp c = some f.body ∧ f.ntmps = fn.ntmps ∧ compRess P fn.results = some f.results

/-- Code does what the interpreter says of it. -/
def WpOK (P : Program) (comp : Code → Option ACode) (ex : Exec) : Prop :=
  ∀ (c : Code) (c' : ACode) (s : St) (e : AEx) (s' : St), comp c = some c' → ex c' s = some (e, s') → ∀ (Γ : Ctx) (a : Act), Now Γ s a → c.wp P (Post Γ s e s') a Γ.w

theorem run_ok {P : Program} {comp : Code → Option ACode} {ex : Exec} (hex : WpOK P comp ex) {g : Nat} {f : AFun} (hf : FunOK P comp g f) : RunOK P g f ex := by
  obtain ⟨fn, c, h1, h2, h3, h4, h5, h6⟩ := hf.ok
  intro args H nx r H' nx' h Γ vs hH hR hU hargs id
  unfold runF at h
  cases hck : (Nat.ble args.length f.ntmps && Nat.ble f.ntmps 4096) with
  | false => simp [hck] at h
  | true =>
  simp only [hck, cond_true] at h
  simp only [Bool.and_eq_true] at hck
  have hck1 := Nat.le_of_ble_eq_true hck.1
  have hck2 := Nat.le_of_ble_eq_true hck.2
  have hnow : Now Γ ⟨padA args f.ntmps, H, nx⟩ { tmps := vs ++ Array.replicate (fn.ntmps - vs.size) undef, defers := [] } := by
    refine ⟨hH, hR, ?_, hU, rfl⟩
    rw [← h5]
    exact init_ok hargs hck1 hck2 []
  have key : ∀ e s, ex f.body ⟨padA args f.ntmps, H, nx⟩ = some (e, s) → (e = .normal ∨ e = .ret) → resultsA s.tm s.H f.results = some r → s.H = H' → s.nx = nx' → Ret P g vs Γ id nx nx' r H' := by
    intro e s he hee hr hsH hsn
    refine calls_of_wp h1 h3 (wp_mono (hex c f.body _ e s h4 he Γ _ hnow) ?_)
    rintro e' a' w' ⟨rfl, Γ', rfl, hg⟩
    have hr' : resultsA s.tm Γ'.H f.results = some r := by rw [hg.now.H]; exact hr
    obtain ⟨v, k1, k2⟩ := results_ok hg.now.ok hg.now.tr h6 hr'
    have hb : Back Γ id nx nx' r H' v Γ' :=
      ⟨hg.now.H.trans hsH, hg.ev, hg.now.ok, k2, fun c hc => (hg.U c hc).elim .inl (fun h => .inr (.inr h)), fun c hc => .inr (hsn ▸ hg.now.lt c hc), hsn ▸ hg.nx⟩
    rcases hee with rfl | rfl <;> exact ⟨hg.now.df, v, k1, v, Γ', rfl, rfl, hb⟩
  split at h
  · rename_i s he
    cases hr : resultsA s.tm s.H f.results with
    | none => simp [hr] at h
    | some x =>
      simp only [hr, Option.some.injEq, Prod.mk.injEq] at h
      exact key _ s he (.inl rfl) (hr.trans (congrArg some h.1)) h.2.1 h.2.2
  · rename_i s he
    cases hr : resultsA s.tm s.H f.results with
    | none => simp [hr] at h
    | some x =>
      simp only [hr, Option.some.injEq, Prod.mk.injEq] at h
      exact key _ s he (.inr rfl) (hr.trans (congrArg some h.1)) h.2.1 h.2.2
  · simp at h

structure TabOK (P : Program) (comp : Code → Option ACode) (T : Table) : Prop where
  code : ∀ g f m, T g = some (.code f m) → FunOK P comp g f
  memo : ∀ g f m, T g = some (.code f m) → ∀ b args r, m b args = some r → ∃ ex r0 H2 n2, WpOK P comp ex ∧ runF ex f args [] 0 = some (r0, H2, n2) ∧ frz b H2 depthA r0 = some r
  prim : ∀ g p, T g = some (.prim p) → PrimOK P g p

theorem callF_ok {P : Program} {comp : Code → Option ACode} {T : Table} (hT : TabOK P comp T) {ex : Exec} (hex : WpOK P comp ex) {Γ : Ctx} (hR : HRel Γ) {id nx : Nat} (hid : ¬ Γ.U id) (hU : ∀ c, Γ.U c → c < nx)
    {g : Nat} {args : List AV} {vs : Array Value} (hargs : All2 (RL Γ) args vs.toList) {r : AV} {H' : Heap} {nx' : Nat} (h : callF T ex id g args Γ.H nx = some (r, H', nx')) : CallDoes P g vs Γ id nx nx' r H' := by
  unfold callF at h
  split at h
  · simp at h
  · rename_i p hp
    split at h
    · simp at h
    · rename_i r2 H2 e
      simp only [Option.some.injEq, Prod.mk.injEq] at h
      obtain ⟨rfl, rfl, rfl⟩ := h
      exact hT.prim g p hp Γ args vs id nx _ _ e hR hid hU hargs
  · rename_i f m hf
    have hrun := run_ok hex (hT.code g f m hf)
    have henter : (callFunc g vs).run P Γ.w = .ok (.enter g vs) Γ.w := by
      obtain ⟨fn, c, h1, h2, h3, _⟩ := (hT.code g f m hf).ok
      have h2' : ¬ fn.name = "runtime.NumGoroutine" := by simpa using h2
      simp [callFunc, h1, h2', h3]
    refine .inl ⟨henter, ?_⟩
    cases ho : f.own with
    | true =>
      simp only [ho, cond_true] at h
      split at h
      · simp at h
      · rename_i args' ha
        split at h
        · rename_i r' hm
          simp only [Option.some.injEq, Prod.mk.injEq] at h
          obtain ⟨rfl, rfl, rfl⟩ := h
          obtain ⟨ex', r0, H2, n2, k1, k2, k3⟩ := hT.memo g f m hf _ args' _ hm
          exact own_ok (run_ok k1 (hT.code g f m hf)) hR hU hargs ha k2 k3 id
        · split at h
          · simp at h
          · rename_i r2 H2 n2 hr2
            split at h
            · simp at h
            · rename_i r' hr'
              simp only [Option.some.injEq, Prod.mk.injEq] at h
              obtain ⟨rfl, rfl, rfl⟩ := h
              exact own_ok hrun hR hU hargs ha hr2 hr' id
    | false =>
      simp only [ho, cond_false] at h
      split at h
      · simp at h
      · rename_i r2 H2 n2 hr2
        simp only [Option.some.injEq, Prod.mk.injEq] at h
        obtain ⟨rfl, rfl, rfl⟩ := h
        exact in_ok hrun hR hU hargs _ hr2 id

/-! ### One operation -/
theorem aop_call {ao : AOp} {tm : TM} {id : Nat} {H : Heap} {g : Nat} {args : List AV} (h : aop ao tm id H = some (.call g args)) :
    (∃ as, ao = .call g as ∧ args = as.map (·.ev tm)) ∨ ∃ f as caps, ao = .callv f as ∧ f.ev tm = .fn g caps ∧ args = as.map (·.ev tm) ++ caps := by
  cases ao with
  | call g' as => simp only [aop, Option.some.injEq, Out.call.injEq] at h; exact .inl ⟨as, by rw [h.1], h.2.symm⟩
  | callv f as =>
    simp only [aop] at h
    split at h
    · rename_i g' caps e
      simp only [Option.some.injEq, Out.call.injEq] at h
      exact .inr ⟨f, as, caps, rfl, by rw [e, h.1], h.2.symm⟩
    · simp at h
  | _ =>
    exfalso
    simp only [aop, cond_eq_ite] at h
    first
      | exact out_call h
      | (simp at h; done)
      | (repeat' (split at h)) <;> first | exact out_call h | (simp at h; done)

def AOp.isCall : AOp → Bool
  | .call _ _ => true
  | .callv _ _ => true
  | _ => false
theorem isCall_bin {P : Program} {b : BinOp} {t : TypeId} {x y : Operand} {ao : AOp} (h : compBin P b t x y = some ao) : ao.isCall = false := by
  simp only [compBin, cond_eq_ite] at h
  (repeat' (split at h)) <;> first | (simp at h; done) | (simp only [Option.some.injEq] at h; subst h; rfl)
theorem isCall_conv {P : Program} {s d : TypeId} {x : Operand} {ao : AOp} (h : compConv P s d x = some ao) : ao.isCall = false := by
  simp only [compConv, cond_eq_ite] at h
  (repeat' (split at h)) <;> first | (simp at h; done) | (simp only [Option.some.injEq] at h; subst h; rfl)
theorem isCall_builtin {P : Program} {b : Builtin} {xs : Array Operand} {ts : Array TypeId} {ao : AOp} (h : compBuiltin P b xs ts = some ao) : ao.isCall = false := by
  simp only [compBuiltin, cond_eq_ite] at h
  (repeat' (split at h)) <;> first | (simp at h; done) | (simp only [Option.some.injEq] at h; subst h; rfl) | (obtain ⟨_, _, rfl⟩ := Option.map_eq_some_iff.1 h; rfl)
theorem isCall_op {P : Program} {op : Op} {ao : AOp} (hn : ∀ c, op ≠ .call c) (h : compOp P op = some ao) : ao.isCall = false := by
  cases op with
  | call c => exact absurd rfl (hn c)
  | binOp b t x y u => exact isCall_bin h
  | convert s d x => exact isCall_conv h
  | makeFunc fn first caps =>
    cases fn with
    | func g =>
      simp only [compOp, cond_eq_ite] at h
      split at h
      · obtain ⟨_, _, rfl⟩ := Option.map_eq_some_iff.1 h; rfl
      · simp at h
    | _ => simp [compOp] at h
  | _ =>
    simp only [compOp, cond_eq_ite] at h
    (repeat' (split at h)) <;> first | (simp at h; done) | (simp only [Option.some.injEq] at h; subst h; rfl) | (obtain ⟨_, _, rfl⟩ := Option.map_eq_some_iff.1 h; rfl)

theorem comp_call {P : Program} {op : Op} {ao : AOp} (hc : compOp P op = some ao) : (∀ g as, ao = .call g as → ∃ c, op = .call c ∧ c.callee = .value (.func g) ∧ compOs c.args = some as) ∧
    (∀ f as, ao = .callv f as → ∃ c x, op = .call c ∧ c.callee = .value x ∧ compO x = some f ∧ compOs c.args = some as) := by
  cases op with
  | call c =>
    simp only [compOp] at hc
    split at hc
    · rename_i b hcal
      have := isCall_builtin hc
      exact ⟨fun g as e => by subst e; simp [AOp.isCall] at this, fun f as e => by subst e; simp [AOp.isCall] at this⟩
    · rename_i f hcal
      split at hc
      · rename_i g as ha
        simp only [Option.some.injEq] at hc; subst hc
        refine ⟨fun g' as' e => ?_, fun f as' e => by simp at e⟩
        injection e with e1 e2; subst e1; subst e2
        exact ⟨c, rfl, hcal, ha⟩
      · rename_i ha hf
        simp only [Option.some.injEq] at hc; subst hc
        refine ⟨fun g' as' e => by simp at e, fun f2 as' e => ?_⟩
        injection e with e1 e2; subst e1; subst e2
        exact ⟨c, _, rfl, hcal, hf, ha⟩
      · simp at hc
    · simp at hc
  | _ =>
    have := isCall_op (by intro c; simp) hc
    exact ⟨fun g as e => by subst e; simp [AOp.isCall] at this, fun f as e => by subst e; simp [AOp.isCall] at this⟩

theorem call_args {P : Program} {Γ : Ctx} (hR : HRel Γ) {id : Nat} {tm : TM} {a : Act} (ht : TR Γ tm a) {o : Oper} {ao : AOp} (hc : compOp P o.op = some ao)
    {g : Nat} {args : List AV} (h : aop ao tm id Γ.H = some (.call g args)) : ∃ vs : Array Value, All2 (RL Γ) args vs.toList ∧ (execOp a.eval o).run P Γ.w = (callFunc g vs).run P Γ.w := by
  obtain ⟨dst, op, ty, pos, after, guard⟩ := o
  rcases aop_call h with ⟨as, rfl, rfl⟩ | ⟨f, as, caps, rfl, hf, rfl⟩
  · obtain ⟨c, rfl, hcal, ha⟩ := (comp_call hc).1 g as rfl
    refine ⟨c.args.map a.eval, compOs_ok ht ha, ?_⟩
    obtain ⟨cal, xs, ats⟩ := c
    simp only at hcal; subst hcal
    have e := execOp_call_go a dst g xs ats ty pos after guard
    rw [e]
    simp
  · obtain ⟨c, x, rfl, hcal, hx, ha⟩ := (comp_call hc).2 f as rfl
    have rf := compO_ok ht hx
    rw [hf] at rf
    obtain ⟨vs, ev, l1, g1⟩ := rf.fn_inv
    refine ⟨c.args.map a.eval ++ vs, ?_, ?_⟩
    · rw [Array.toList_append]
      exact (compOs_ok ht ha).append (All2.of_arr l1 g1)
    · simp [execOp, resolve, hcal, ev, Deferred.ofValue, invoke]

theorem op_wp {P : Program} {comp : Code → Option ACode} {T : Table} (hT : TabOK P comp T) {ex : Exec} (hex : WpOK P comp ex) {Γ : Ctx} (hR : HRel Γ) {id nx : Nat} (hid : ¬ Γ.U id) (hU : ∀ c, Γ.U c → c < nx)
    {tm : TM} {a : Act} (ht : TR Γ tm a) {o : Oper} {ao : AOp} (hc : compOp P o.op = some ao) {r : AV} {H' : Heap} {nx' : Nat}
    (h : (aop ao tm id Γ.H = some (.val r H') ∧ nx' = nx) ∨ ∃ g args, aop ao tm id Γ.H = some (.call g args) ∧ callF T ex id g args Γ.H nx = some (r, H', nx'))
    {next : Act → World → Prop} {Q : Exit → Act → World → Prop} (hn : ∀ v Γ', Back Γ id nx nx' r H' v Γ' → next (a.put o.dst v) Γ'.w) : o.wp P a Γ.w next Q := by
  rcases h with ⟨h, rfl⟩ | ⟨g, args, h1, h2⟩
  · obtain ⟨nx2, Γ', e1, e2, e3, e4, e5, e6⟩ := does_op hR hid ht hc h
    have hb : ∀ v, RL Γ' r v → Back Γ id nx' nx' r H' v Γ' := fun v hv =>
      ⟨e2, e3, e4, hv, fun c hc => (e5 c hc).elim .inl (fun h => .inr (.inl h)), fun c hc => (e5 c hc).elim (fun h => .inr (hU c h)) .inl, Nat.le_refl _⟩
    unfold Oper.wp
    rw [e1]
    rcases e6 with ⟨v, rfl, hv⟩ | ⟨rfl, hv⟩
    · exact hn v Γ' (hb v hv)
    · exact hn undef Γ' (hb undef hv)
  · obtain ⟨vs, hargs, he⟩ := call_args hR ht hc h1
    unfold Oper.wp
    rw [he]
    rcases callF_ok hT hex hR hid hU hargs h2 with ⟨k1, k2⟩ | ⟨v, Γ', k1, k2⟩
    · rw [k1]
      refine Calls.mono k2 ?_
      rintro e w' ⟨v, Γ', rfl, rfl, hb⟩
      exact hn v Γ' hb
    · rw [k1]
      exact hn v Γ' k2

end Go.Am

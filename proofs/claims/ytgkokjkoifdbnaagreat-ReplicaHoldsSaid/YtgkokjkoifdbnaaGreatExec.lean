import Derived.Test.YtgkokjkoifdbnaaGreatDraw5
import Derived.Tactics
import Derived.LoopN
import Derived.Scope
/- Code: what the interpreter tells, the machine does. -/
namespace Go.Am
set_option autoImplicit false
set_option linter.unusedSimpArgs false
set_option linter.unusedVariables false

theorem reg_list {P : Program} {comp : Code → Option ACode} {T : Table} (hT : TabOK P comp T) {ex : Exec} (hex : WpOK P comp ex) {ops : Array Oper} {Γ0 : Ctx} {s0 : St} {n : Nat} (hU0 : ∀ c, Γ0.U c → c < s0.nx) :
    ∀ {l : List Oper} {as : List AOper} {k : Nat} {s s' : St}, mapO (compOper P ops) l = some as → k + l.length ≤ n → regOps T ex s0.nx as k s = some s' → ∀ {Γ : Ctx} {a : Act}, Now Γ s a → Ev Γ0 Γ → s0.nx + n ≤ s.nx →
      (∀ c, Γ.U c → Γ0.U c ∨ (∃ j, j < k ∧ c = s0.nx + j) ∨ s0.nx + n ≤ c) → wpList P ops (Post Γ0 s0 .normal s') l a Γ.w
  | [], as, k, s, s', hc, hk, h, Γ, a, hnow, hev, hnx, hU => by
    simp only [mapO, Option.some.injEq] at hc; subst hc
    simp only [regOps, Option.some.injEq] at h; subst h
    refine ⟨rfl, Γ, rfl, hnow, hev, by omega, fun c hc => ?_⟩
    rcases hU c hc with h | ⟨j, _, rfl⟩ | h
    · exact .inl h
    · exact .inr (by omega)
    · exact .inr (by omega)
  | o :: l, as, k, s, s', hc, hk, h, Γ, a, hnow, hev, hnx, hU => by
    simp only [mapO] at hc
    cases ho : compOper P ops o with
    | none => simp [ho] at hc
    | some ao =>
      cases hl : mapO (compOper P ops) l with
      | none => simp [ho, hl] at hc
      | some al =>
        simp only [ho, hl, Option.some.injEq] at hc
        subst hc
        simp only [List.length_cons] at hk
        obtain ⟨g1, g2, g3⟩ := compOper_inv ho
        have hw := wanted_ok ho hnow.tr
        have hUn : ∀ c, Γ.U c → Γ0.U c ∨ (∃ j, j < k + 1 ∧ c = s0.nx + j) ∨ s0.nx + n ≤ c := fun c hc => (hU c hc).imp id fun h => h.imp (fun ⟨j, h1, h2⟩ => ⟨j, by omega, h2⟩) id
        have put_eq : ∀ (s : St) (r : AV), (s.put ao r) = { s with tm := match o.dst with
            | none => s.tm
            | some d => tset s.tm d r } := by
          intro s r
          unfold St.put
          rw [g2]
          cases o.dst <;> rfl
        simp only [regOps, opA] at h
        simp only [wpList]
        cases hg : goes s.tm ao with
        | false =>
          simp only [hg, cond_false] at h
          have hwf : Region.wanted o (yielded ops a.tmps) = false := by rw [hw, hg]
          simp only [hwf, if_false, Bool.false_eq_true]
          refine reg_list (n := n) hT hex hU0 hl (by omega) h (Γ := Γ) ⟨?_, hnow.ok, ?_, ?_, ?_⟩ hev ?_ hUn
          · rw [put_eq]; exact hnow.H
          · rw [put_eq]; exact put_ok hnow.tr o.dst (RL.v Γ _)
          · rw [put_eq]; exact hnow.lt
          · rw [put_defers]; exact hnow.df
          · rw [put_eq]; exact hnx
        | true =>
          simp only [hg, cond_true] at h
          have hwt : Region.wanted o (yielded ops a.tmps) = true := by rw [hw, hg]
          simp only [hwt, if_true]
          refine .inl ?_
          have hid : ¬ Γ.U (s0.nx + k) := by
            intro hc
            rcases hU _ hc with h | ⟨j, h, e⟩ | h
            · have := hU0 _ h; omega
            · omega
            · omega
          have key : ∀ (r : AV) (H' : Heap) (nx' : Nat), ((aop ao.op s.tm (s0.nx + k) Γ.H = some (.val r H') ∧ nx' = s.nx) ∨ ∃ g args, aop ao.op s.tm (s0.nx + k) Γ.H = some (.call g args) ∧ callF T ex (s0.nx + k) g args Γ.H s.nx = some (r, H', nx')) →
              regOps T ex s0.nx al (k + 1) (({ s with H := H', nx := nx' } : St).put ao r) = some s' → o.wp P a Γ.w (wpList P ops (Post Γ0 s0 .normal s') l) (Post Γ0 s0 .normal s') := by
            intro r H' nx' hrun hrest
            have hc' : compOp P o.op = some ao.op := by
              rcases hrun with ⟨hx, _⟩ | ⟨_, _, hx, _⟩
              · exact unbad g1 hx
              · exact unbad g1 hx
            refine op_wp (nx := s.nx) hT hex hnow.ok hid hnow.lt hnow.tr hc' hrun ?_
            intro v Γ' hb
            refine reg_list (n := n) hT hex hU0 hl (by omega) hrest (Γ := Γ') ⟨?_, hb.ok, ?_, ?_, ?_⟩ (hev.trans hb.ev) ?_ ?_
            · rw [put_eq]; exact hb.H
            · rw [put_eq]; exact put_ok (hnow.tr.imp fun a x hx => hx.ev hnow.ok hb.ev) o.dst hb.rl
            · rw [put_eq]
              intro c hc
              have := hb.nx
              rcases hb.lt c hc with rfl | h
              · show s0.nx + k < nx'
                have h5 : s.nx ≤ nx' := hb.nx
                omega
              · exact h
            · rw [put_defers]; exact hnow.df
            · rw [put_eq]
              have := hb.nx
              show s0.nx + n ≤ nx'
              omega
            · intro c hc
              rcases hb.U c hc with h | rfl | h
              · exact hUn c h
              · exact .inr (.inl ⟨k, by omega, rfl⟩)
              · exact .inr (.inr (by omega))
          rw [← hnow.H] at h
          cases ha : aop ao.op s.tm (s0.nx + k) Γ.H with
          | none => simp [ha] at h
          | some x =>
            cases x with
            | val r H' =>
              simp only [ha] at h
              refine key r H' s.nx (.inl ⟨ha, rfl⟩) ?_
              exact h
            | call g args =>
              simp only [ha] at h
              cases hcf : callF T ex (s0.nx + k) g args Γ.H s.nx with
              | none => simp [hcf] at h
              | some y =>
                obtain ⟨r, H', nx'⟩ := y
                simp only [hcf] at h
                exact key r H' nx' (.inr ⟨g, args, ha, hcf⟩) h

theorem reg_wp {P : Program} {comp : Code → Option ACode} {T : Table} (hT : TabOK P comp T) {ex : Exec} (hex : WpOK P comp ex) {rid : Nat} {ops : Array Oper} {as : List AOper}
    (h0 : mapO (compOper P ops) ops.toList = some as) {Γ : Ctx} {s : St} {a : Act} (hnow : Now Γ s a) {s' : St} (h : regOps T ex s.nx as 0 { s with nx := s.nx + as.length } = some s') :
    (Code.region rid ops false).wp P (Post Γ s .normal s') a Γ.w := by
  refine wp_region ?_
  have e : List.range ops.size = List.range' 0 ops.toList.length := by simp [List.range_eq_range']
  rw [e, wpOps_eq_wpList ops.toList 0 (fun j => by simp)]
  have hl := (mapO_some h0).1
  refine reg_list hT hex (s0 := s) (n := as.length) hnow.lt h0 (by omega) h (Γ := Γ) ⟨hnow.H, hnow.ok, hnow.tr, fun c hc => ?_, hnow.df⟩ (Ev.refl Γ) (Nat.le_refl _) (fun c hc => .inl hc)
  have := hnow.lt c hc
  show c < s.nx + as.length
  omega

theorem Post.trans {Γ Γ1 : Ctx} {s s1 s' : St} {a1 : Act} {e : AEx} (h : Goes Γ s s1 Γ1 a1) {e' : Exit} {a' : Act} {w' : World} (k : Post Γ1 s1 e s' e' a' w') : Post Γ s e s' e' a' w' := by
  obtain ⟨k1, Γ2, k2, k3⟩ := k
  exact ⟨k1, Γ2, k2, h.trans k3⟩

theorem rounds_mono {P : Program} {c : Code} {Q Q' : Exit → Act → World → Prop} (h : ∀ e a w, Q e a w → Q' e a w) : ∀ (n : Nat) (a : Act) (w : World), Code.rounds P c Q n a w → Code.rounds P c Q' n a w
  | 0, a, w, k => k.elim
  | n + 1, a, w, k => wp_mono k fun e a w q => by
    cases e with
    | normal => exact rounds_mono h n a w q
    | _ => exact h _ _ _ q

def wpSc (P : Program) (body cur : Code) (Q : Exit → Act → World → Prop) (a : Act) (w : World) : Prop :=
  ∀ (b : Frame) (k : List Item) (cs : List Frame), ∃ e a' w', Q e a' w' ∧ Arrives P (lone (b.at a (.code cur :: .inScope body :: k)) cs w) b k cs e a' w'

theorem findL_ok {P : Program} {T : Table} {l : Nat} : ∀ {c : Code} {c' : ACode}, compC P T c = some c' → match findL c' l with
    | none => findLabel c l = none
    | some r' => ∃ r, findLabel c l = some r ∧ compC P T r = some r'
  | .seq x y, c', h => by
    simp only [compC] at h
    cases hx : compC P T x with
    | none => simp [hx] at h
    | some x' =>
      cases hy : compC P T y with
      | none => simp [hx, hy] at h
      | some y' =>
        simp only [hx, hy, Option.some.injEq] at h
        subst h
        have ix := findL_ok (l := l) hx
        have iy := findL_ok (l := l) hy
        simp only [findL, findLabel]
        cases hfx : findL x' l with
        | some r =>
          rw [hfx] at ix
          obtain ⟨r0, e1, e2⟩ := ix
          exact ⟨.seq r0 y, by rw [e1], by simp [compC, e2, hy]⟩
        | none =>
          rw [hfx] at ix
          simp only [] at ix
          rw [ix]
          exact iy
  | .label l', c', h => by
    simp only [compC, Option.some.injEq] at h
    subst h
    simp only [findL, findLabel]
    by_cases hl : l' = l
    · subst hl; simp [compC]
    · have : Nat.beq l' l = false := nbeq_false hl
      simp [this, hl]
  | .skip, c', h => by simp only [compC, Option.some.injEq] at h; subst h; rfl
  | .region _ ops draw, c', h => by
    simp only [compC, compRegion] at h
    split at h
    · simp at h
    · cases draw with
      | false => simp only [cond_false, Option.some.injEq] at h; subst h; rfl
      | true =>
        simp only [cond_true] at h
        cases he : edgesOK ops.toList 0 with
        | false => simp [he] at h
        | true =>
          simp only [he, cond_true] at h
          obtain ⟨_, _, rfl⟩ := Option.map_eq_some_iff.1 h
          rfl
  | .cond c x y, c', h => by
    simp only [compC] at h
    split at h
    · simp only [Option.some.injEq] at h; subst h; rfl
    · simp at h
  | .block id c, c', h => by simp only [compC] at h; obtain ⟨_, _, rfl⟩ := Option.map_eq_some_iff.1 h; rfl
  | .loop c, c', h => by simp only [compC] at h; obtain ⟨_, _, rfl⟩ := Option.map_eq_some_iff.1 h; rfl
  | .scope c, c', h => by simp only [compC] at h; obtain ⟨_, _, rfl⟩ := Option.map_eq_some_iff.1 h; rfl
  | .exit id, c', h => by simp only [compC, Option.some.injEq] at h; subst h; rfl
  | .goto id, c', h => by simp only [compC, Option.some.injEq] at h; subst h; rfl
  | .ret, c', h => by simp only [compC, Option.some.injEq] at h; subst h; rfl
  | .rangeFunc _ _ _ _, c', h => by simp [compC] at h
  | .refuse _, c', h => by simp [compC] at h

structure ExOK (P : Program) (T : Table) (n : Nat) : Prop where
  wp : WpOK P (compC P T) (exec T n)
  loop : ∀ (c : Code) (c' : ACode) (s : St) (e : AEx) (s' : St), compC P T c = some c' → exec T n (.loop c') s = some (e, s') → ∀ (Γ : Ctx) (a : Act), Now Γ s a → Code.rounds P c (Post Γ s e s') n a Γ.w
  scope : ∀ (body cur : Code) (b' c' : ACode) (s : St) (e : AEx) (s' : St), compC P T body = some b' → compC P T cur = some c' → exec T n (.scope b' c') s = some (e, s') → ∀ (Γ : Ctx) (a : Act), Now Γ s a → wpSc P body cur (Post Γ s e s') a Γ.w

theorem exec_ok {P : Program} (hm : P.follows .mixedOrders = true) {T : Table} (hT : TabOK P (compC P T) T) : ∀ n, ExOK P T n
  | 0 => ⟨fun c c' s e s' _ h => by simp [exec] at h, fun c c' s e s' _ h => by simp [exec] at h, fun b c b' c' s e s' _ _ h => by simp [exec] at h⟩
  | n + 1 => by
    have ih := exec_ok hm hT n
    have hloop : ∀ (c : Code) (c' : ACode) (s : St) (e : AEx) (s' : St), compC P T c = some c' → exec T (n + 1) (.loop c') s = some (e, s') → ∀ (Γ : Ctx) (a : Act), Now Γ s a → Code.rounds P c (Post Γ s e s') (n + 1) a Γ.w := by
      intro c c' s e s' hc h Γ a hnow
      simp only [exec, step] at h
      rw [rounds_succ]
      cases h1 : exec T n c' s with
      | none => simp [h1] at h
      | some x =>
        obtain ⟨e1, s1⟩ := x
        refine wp_mono (ih.wp c c' s e1 s1 hc h1 Γ a hnow) ?_
        rintro ex a1 w1 ⟨rfl, Γ1, rfl, hg⟩
        cases e1 with
        | normal =>
          simp only [h1] at h
          exact rounds_mono (fun e a w q => Post.trans hg q) n _ _ (ih.loop c c' s1 e s' hc h Γ1 a1 hg.now)
        | _ =>
          simp only [h1, Option.some.injEq, Prod.mk.injEq] at h
          obtain ⟨rfl, rfl⟩ := h
          exact ⟨rfl, Γ1, rfl, hg⟩
    have hscope : ∀ (body cur : Code) (b' c' : ACode) (s : St) (e : AEx) (s' : St), compC P T body = some b' → compC P T cur = some c' → exec T (n + 1) (.scope b' c') s = some (e, s') → ∀ (Γ : Ctx) (a : Act), Now Γ s a → wpSc P body cur (Post Γ s e s') a Γ.w := by
      intro body cur b' c' s e s' hb hc h Γ a hnow b k cs
      simp only [exec, step] at h
      cases h1 : exec T n c' s with
      | none => simp [h1] at h
      | some x =>
        obtain ⟨e1, s1⟩ := x
        obtain ⟨ex, a1, w1, ⟨rfl, Γ1, rfl, hg⟩, harr⟩ := ih.wp cur c' s e1 s1 hc h1 Γ a hnow b (.inScope body :: k) cs
        cases e1 with
        | normal =>
          simp only [h1, Option.some.injEq, Prod.mk.injEq] at h
          obtain ⟨rfl, rfl⟩ := h
          exact ⟨.normal, a1, Γ1.w, ⟨rfl, Γ1, rfl, hg⟩, Steps.trans harr (.one step_inScope)⟩
        | exit id =>
          simp only [h1, Option.some.injEq, Prod.mk.injEq] at h
          obtain ⟨rfl, rfl⟩ := h
          exact ⟨.exit id, a1, Γ1.w, ⟨rfl, Γ1, rfl, hg⟩, fun k' hk => harr k' (by simp [exitTo, hk])⟩
        | ret =>
          simp only [h1, Option.some.injEq, Prod.mk.injEq] at h
          obtain ⟨rfl, rfl⟩ := h
          exact ⟨.ret, a1, Γ1.w, ⟨rfl, Γ1, rfl, hg⟩, harr⟩
        | goto l =>
          simp only [h1] at h
          have hf := findL_ok (l := l) hb
          cases hfl : findL b' l with
          | none =>
            simp only [hfl, Option.some.injEq, Prod.mk.injEq] at h hf
            obtain ⟨rfl, rfl⟩ := h
            exact ⟨.goto l, a1, Γ1.w, ⟨rfl, Γ1, rfl, hg⟩, fun k' hk => harr k' (by simp [gotoIn, hf, hk])⟩
          | some r' =>
            simp only [hfl] at h hf
            obtain ⟨r, e1, e2⟩ := hf
            obtain ⟨ex, a2, w2, hq, harr2⟩ := ih.scope body r b' r' s1 e s' hb e2 h Γ1 a1 hg.now b k cs
            exact ⟨ex, a2, w2, Post.trans hg hq, .of_steps (harr _ (by simp [gotoIn, e1])) harr2⟩
    refine ⟨?_, hloop, hscope⟩
    intro c c' s e s' hc h Γ a hnow
    cases c with
    | skip =>
      simp only [compC, Option.some.injEq] at hc; subst hc
      simp only [exec, step, Option.some.injEq, Prod.mk.injEq] at h
      obtain ⟨rfl, rfl⟩ := h
      exact wp_skip ⟨rfl, Γ, rfl, .refl hnow⟩
    | label l =>
      simp only [compC, Option.some.injEq] at hc; subst hc
      simp only [exec, step, Option.some.injEq, Prod.mk.injEq] at h
      obtain ⟨rfl, rfl⟩ := h
      exact wp_label ⟨rfl, Γ, rfl, .refl hnow⟩
    | exit id =>
      simp only [compC, Option.some.injEq] at hc; subst hc
      simp only [exec, step, Option.some.injEq, Prod.mk.injEq] at h
      obtain ⟨rfl, rfl⟩ := h
      exact wp_exit ⟨rfl, Γ, rfl, .refl hnow⟩
    | goto id =>
      simp only [compC, Option.some.injEq] at hc; subst hc
      simp only [exec, step, Option.some.injEq, Prod.mk.injEq] at h
      obtain ⟨rfl, rfl⟩ := h
      exact wp_goto ⟨rfl, Γ, rfl, .refl hnow⟩
    | ret =>
      simp only [compC, Option.some.injEq] at hc; subst hc
      simp only [exec, step, Option.some.injEq, Prod.mk.injEq] at h
      obtain ⟨rfl, rfl⟩ := h
      exact wp_ret ⟨rfl, Γ, rfl, .refl hnow⟩
    | seq x y =>
      simp only [compC] at hc
      cases hx : compC P T x with
      | none => simp [hx] at hc
      | some x' =>
        cases hy : compC P T y with
        | none => simp [hx, hy] at hc
        | some y' =>
          simp only [hx, hy, Option.some.injEq] at hc
          subst hc
          simp only [exec, step] at h
          cases h1 : exec T n x' s with
          | none => simp [h1] at h
          | some z =>
            obtain ⟨e1, s1⟩ := z
            refine wp_seq (wp_mono (ih.wp x x' s e1 s1 hx h1 Γ a hnow) ?_)
            rintro ex a1 w1 ⟨rfl, Γ1, rfl, hg⟩
            cases e1 with
            | normal =>
              simp only [h1] at h
              exact wp_mono (ih.wp y y' s1 e s' hy h Γ1 a1 hg.now) fun e a w q => Post.trans hg q
            | _ =>
              simp only [h1, Option.some.injEq, Prod.mk.injEq] at h
              obtain ⟨rfl, rfl⟩ := h
              exact ⟨rfl, Γ1, rfl, hg⟩
    | cond z x y =>
      simp only [compC] at hc
      split at hc
      · rename_i z' x' y' hz hx hy
        simp only [Option.some.injEq] at hc
        subst hc
        simp only [exec, step] at h
        have hr := compO_ok hnow.tr hz
        split at h
        · rename_i e1
          rw [e1] at hr
          exact wp_cond_true hr.v_inv (ih.wp x x' s e s' hx h Γ a hnow)
        · rename_i e1
          rw [e1] at hr
          exact wp_cond_false hr.v_inv (ih.wp y y' s e s' hy h Γ a hnow)
        · simp at h
      · simp at hc
    | block id x =>
      simp only [compC] at hc
      obtain ⟨x', hx, rfl⟩ := Option.map_eq_some_iff.1 hc
      simp only [exec, step] at h
      cases h1 : exec T n x' s with
      | none => simp [h1] at h
      | some z =>
        obtain ⟨e1, s1⟩ := z
        refine wp_block (wp_mono (ih.wp x x' s e1 s1 hx h1 Γ a hnow) ?_)
        rintro ex a1 w1 ⟨rfl, Γ1, rfl, hg⟩
        cases e1 with
        | exit id' =>
          simp only [h1] at h
          by_cases hi : id' = id
          · subst hi
            simp only [Nat.beq_refl, cond_true, Option.some.injEq, Prod.mk.injEq] at h
            obtain ⟨rfl, rfl⟩ := h
            simp only [exOf, Exit.inBlock, if_true]
            exact ⟨rfl, Γ1, rfl, hg⟩
          · simp only [nbeq_false hi, cond_false, Option.some.injEq, Prod.mk.injEq] at h
            obtain ⟨rfl, rfl⟩ := h
            simp only [exOf, Exit.inBlock, hi, if_false]
            exact ⟨rfl, Γ1, rfl, hg⟩
        | _ =>
          simp only [h1, Option.some.injEq, Prod.mk.injEq] at h
          obtain ⟨rfl, rfl⟩ := h
          exact ⟨rfl, Γ1, rfl, hg⟩
    | loop x =>
      simp only [compC] at hc
      obtain ⟨x', hx, rfl⟩ := Option.map_eq_some_iff.1 hc
      exact wp_loop_rounds (n + 1) (hloop x x' s e s' hx h Γ a hnow)
    | scope x =>
      simp only [compC] at hc
      obtain ⟨x', hx, rfl⟩ := Option.map_eq_some_iff.1 hc
      intro b k cs
      obtain ⟨ex, a1, w1, hq, harr⟩ := hscope x x x' x' s e s' hx hx h Γ a hnow b k cs
      exact ⟨ex, a1, w1, hq, .of_steps (.one step_scope) harr⟩
    | region rid ops draw =>
      simp only [compC, compRegion] at hc
      split at hc
      · simp at hc
      · rename_i as0 h0
        cases draw with
        | false =>
          simp only [cond_false, Option.some.injEq] at hc
          subst hc
          simp only [exec, step] at h
          obtain ⟨s2, h2, h3⟩ := Option.map_eq_some_iff.1 h
          simp only [Prod.mk.injEq] at h3
          obtain ⟨rfl, rfl⟩ := h3
          exact reg_wp hT ih.wp h0 hnow h2
        | true =>
          simp only [cond_true] at hc
          cases he : edgesOK ops.toList 0 with
          | false => simp [he] at hc
          | true =>
            simp only [he, cond_true] at hc
            obtain ⟨as, has, rfl⟩ := Option.map_eq_some_iff.1 hc
            simp only [exec, step] at h
            split at h
            · simp at h
            · rename_i ds s2 hd
              cases hck : chkD ds as ds with
              | false => simp [hck] at h
              | true =>
                simp only [hck, cond_true, Option.some.injEq, Prod.mk.injEq] at h
                obtain ⟨rfl, rfl⟩ := h
                exact dreg_wp hm hT ih.wp h0 he has hnow hd hck
    | rangeFunc => simp [compC] at hc
    | refuse => simp [compC] at hc

end Go.Am

import Derived.Test.YtgkokjkoifdbnaaGreatDraw4
/- Regions whose order is open: all orders. -/
namespace Go.Am
set_option autoImplicit false
set_option linter.unusedSimpArgs false
set_option linter.unusedVariables false

theorem mapO_get {α β : Type} {f : α → Option β} : ∀ {l : List α} {r : List β}, mapO f l = some r → ∀ (j : Nat) (x : α), l[j]? = some x → ∃ y, r[j]? = some y ∧ f x = some y := by
  intro l r h j x hx
  obtain ⟨h1, h2⟩ := mapO_some h
  have hj : j < r.length := by
    have := (List.getElem?_eq_some_iff.1 hx).1
    omega
  obtain ⟨x', e1, e2⟩ := h2 j r[j] (by simp [hj])
  rw [hx] at e1; injection e1 with e1; subst e1
  exact ⟨r[j], by simp [hj], e2⟩

/-- How many have not been listed. -/
def unl (listed : Array Bool) (n : Nat) : Nat := ((List.range n).filter fun i => !listed.getD i true).length

theorem filter_len_lt {l : List Nat} {p q : Nat → Bool} (h : ∀ x, q x = true → p x = true) {i : Nat} (hi : i ∈ l) (hp : p i = true) (hq : q i = false) : (l.filter q).length < (l.filter p).length := by
  induction l with
  | nil => simp at hi
  | cons x r ih =>
    have hle : (r.filter q).length ≤ (r.filter p).length := by
      clear ih hi
      induction r with
      | nil => simp
      | cons y s ih =>
        simp only [List.filter_cons]
        cases hy : q y with
        | true => simp [h y hy]; exact ih
        | false => cases hpy : p y <;> simp <;> omega
    rcases List.mem_cons.1 hi with rfl | hi
    · simp only [List.filter_cons, hp, hq, if_true, Bool.false_eq_true, if_false, List.length_cons]
      omega
    · have := ih hi
      simp only [List.filter_cons]
      cases hy : q x with
      | true => simp [h x hy]; exact this
      | false => cases hpy : p x <;> simp <;> omega

theorem unl_set {listed : Array Bool} {n i : Nat} (hi : i < n) (h : listed.getD i true = false) : unl (listed.setIfInBounds i true) n < unl listed n := by
  have hsz : i < listed.size := by
    rcases Nat.lt_or_ge i listed.size with h' | h'
    · exact h'
    · simp [Array.getElem?_eq_none h'] at h
  refine filter_len_lt (i := i) (fun x hx => ?_) (by simp [hi]) (by simp [h]) (by simp [hsz])
  by_cases hxi : i = x
  · subst hxi; simp [hsz] at hx
  · rw [getD_set_ne true hxi] at hx; exact hx

theorem getD_true_false {listed : Array Bool} {i : Nat} (hi : i < listed.size) : listed.getD i true = listed.getD i false := by
  simp [hi]

theorem dreg_wp {P : Program} (hm : P.follows .mixedOrders = true) {T : Table} (hT : TabOK P (compC P T) T) {ex : Exec} (hex : WpOK P (compC P T) ex) {rid : Nat} {ops : Array Oper} {as0 as : List AOper}
    (h0 : mapO (compOper P ops) ops.toList = some as0) (hE : edgesOK ops.toList 0 = true) (hD : compD T (befs ops.toList []) [] as0 = some as)
    {Γ : Ctx} {s : St} {a : Act} (hnow : Now Γ s a) {ds : List DR} {s' : St} (h : dregOps T ex s.nx as 0 { s with nx := s.nx + as.length } = some (ds, s')) (hchk : chkD ds as ds = true) :
    (Code.region rid ops true).wp P (Post Γ s .normal s') a Γ.w := by
  obtain ⟨c1, c2⟩ := compD_spec hD
  have c0 := (mapO_some h0).1
  have hlen : as.length = ops.size := by rw [c1, ← c0]; simp
  obtain ⟨t1, t2, t3, t4⟩ := dreg_trace h (L := (thas s.tm)) rfl
  have hops : ∀ {i : Nat} {o : Oper}, ops[i]? = some o → ∃ a0, as0[i]? = some a0 ∧ compOper P ops o = some a0 ∧ as[i]? = some { a0 with un := unOf T ((befs ops.toList []).getD i 0) a0 (as0.take i) 0 } ∧ fitD T ((befs ops.toList []).getD i 0) a0 (as0.take i) 0 = true := by
    intro i o ho
    obtain ⟨a0, e1, e2⟩ := mapO_get h0 i o (by simpa using ho)
    obtain ⟨k1, k2⟩ := c2 i a0 e1
    exact ⟨a0, e1, e2, by simpa using k1, by simpa using k2⟩
  have hof : ∀ {i : Nat} {ao : AOper}, as[i]? = some ao → ∃ o, ops[i]? = some o := by
    intro i ao hi
    have := (List.getElem?_eq_some_iff.1 hi).1
    exact ⟨ops[i]'(by omega), by simp [show i < ops.size by omega]⟩
  -- two that are not ordered
  have hsep0 : ∀ {i j : Nat} {ai aj : AOper} {di dj : DR}, as[i]? = some ai → as[j]? = some aj → ds[i]? = some di → ds[j]? = some dj → j < i → ((befs ops.toList []).getD i 0).testBit j = false →
      Sep T ai aj di dj ∧ Sep T aj ai dj di := by
    intro i j ai aj di dj hi hj hdi hdj hlt hb
    obtain ⟨o, ho⟩ := hof hi
    obtain ⟨p, hp⟩ := hof hj
    obtain ⟨a0, e1, e2, e3, e4⟩ := hops ho
    obtain ⟨b0, g1, g2, g3, g4⟩ := hops hp
    have ei : ai = { a0 with un := unOf T ((befs ops.toList []).getD i 0) a0 (as0.take i) 0 } := by rw [hi] at e3; injection e3
    have ej : aj = { b0 with un := unOf T ((befs ops.toList []).getD j 0) b0 (as0.take j) 0 } := by rw [hj] at g3; injection g3
    have hjt : (as0.take i)[j]? = some b0 := by rw [List.getElem?_take]; simp [hlt, g1]
    have hap := fitD_mem e4 hjt (by simpa using hb)
    simp only [apartT, Bool.and_eq_true, Bool.not_eq_true'] at hap
    have w1 := dstOut_iff hap.1.1
    have w2 := dstOut_iff hap.1.2
    have w3 : ¬ (a0.op.numbers T = true ∧ b0.op.numbers T = true) := by
      rintro ⟨x, y⟩; simp [x, y] at hap
    obtain ⟨_, _, q1, q2, _, _⟩ := t4 i ai hi
    obtain ⟨_, _, r1, r2, _, _⟩ := t4 j aj hj
    rw [hdi] at q1; injection q1 with q1; subst q1
    rw [hdj] at r1; injection r1 with r1; subst r1
    have hmem : (∀ c ∈ di.rd, c ∉ dj.dm) ∧ (∀ c ∈ di.dm, c ∉ dj.rd) ∧ (∀ c ∈ di.dm, c ∉ dj.dm) := by
      cases hmt : meets T a0.op b0.op with
      | false =>
        refine meets_rd (T := T) (o := ai) (p := aj) ?_ (dopA_rd q2) (dopA_rd r2)
        rw [ei, ej]; exact hmt
      | true =>
        have hun : j ∈ ai.un := by
          rw [ei]
          have := unOf_mem (T := T) (b := (befs ops.toList []).getD i 0) (o := a0) (k := 0) hjt (by simpa using hb) hmt
          simpa using this
        have := chkD_iff hchk i ai di hi hdi j hun dj hdj
        obtain ⟨x1, x2, x3⟩ := apartD_iff this
        exact ⟨fun c hc hc' => x2 c hc' hc, fun c hc hc' => x1 c hc' hc, fun c hc hc' => x3 c hc' hc⟩
    obtain ⟨m1, m2, m3⟩ := hmem
    subst ei; subst ej
    exact ⟨⟨w1, m1, m3, w3⟩, ⟨w2, fun c hc hc' => m2 c hc' hc, fun c hc hc' => m3 c hc' hc, fun h => w3 ⟨h.2, h.1⟩⟩⟩
  have hsep : ∀ {i j : Nat} {ai aj : AOper} {di dj : DR}, as[i]? = some ai → as[j]? = some aj → ds[i]? = some di → ds[j]? = some dj → j ≠ i → ((befs ops.toList []).getD i 0).testBit j = false → ((befs ops.toList []).getD j 0).testBit i = false →
      Sep T ai aj di dj := by
    intro i j ai aj di dj hi hj hdi hdj hne hb hb'
    rcases Nat.lt_or_gt_of_ne hne with hlt | hlt
    · exact (hsep0 hi hj hdi hdj hlt hb).1
    · exact (hsep0 hj hi hdj hdi hlt hb').2
  have hlist : ∀ (i : Nat) (o : Oper), ops.toList[i]? = some o ↔ ops[i]? = some o := fun i o => by simp
  have hltb : ∀ {i : Nat} {o : Oper}, ops[i]? = some o → ∀ j, ((befs ops.toList []).getD i 0).testBit j = true → j < i := by
    intro i o ho j hj
    exact (ahead_closed hE (D := fun _ => True) (fun _ _ _ _ _ _ _ => trivial) i o (by simpa using ho) (fun _ _ _ => trivial) j hj).2
  -- every order
  have main : ∀ (fuel : Nat) (listed : Array Bool) (a' : Act) (w' : World), listed.size = ops.size → unl listed ops.size ≤ fuel →
      (∀ i o, ops.toList[i]? = some o → listed.getD i false = true → ∀ e ∈ o.after.toList, Region.binds .any e = true → listed.getD e.on false = true) →
      Inv Γ (wsOf T (thas s.tm) as ds) (sg { s with nx := s.nx + as.length }) s.nx as.length (thas s.tm) (fun j => listed.getD j false) a' w' →
      wpAny P .any ops (Post Γ s .normal s') fuel listed a' w' := by
    intro fuel
    have fin : ∀ (listed : Array Bool) (a' : Act) (w' : World), listed.size = ops.size → Region.ready .any ops listed = [] →
        Inv Γ (wsOf T (thas s.tm) as ds) (sg { s with nx := s.nx + as.length }) s.nx as.length (thas s.tm) (fun j => listed.getD j false) a' w' → Post Γ s .normal s' .normal a' w' := by
      intro listed a' w' hsz hr hI
      have hall : ∀ i, i < ops.size → listed.getD i false = true := by
        intro i
        induction i using Nat.strongRecOn with
        | _ i ih =>
          intro hi
          cases hl : listed.getD i false with
          | true => rfl
          | false =>
            exfalso
            have : i ∈ Region.ready .any ops listed := by
              rw [mem_ready]
              refine ⟨by rw [getD_true_false (by omega)]; exact hl, ops[i], by simp [hi], fun e he hb => ?_⟩
              have hlt := edgesOK_iff hE i ops[i] (by simp [hi]) e (by simpa using he) hb
              exact ih e.on (by omega) (by omega)
            rw [hr] at this; simp at this
      obtain ⟨Γ', s2, rfl, hn2, hsg, hL, hev, hnx, hU⟩ := hI
      refine ⟨rfl, { Γ' with H := s'.H }, rfl, ?_⟩
      have heq : sg s2 = sg s' := by
        rw [hsg, t2]
        funext l
        refine foldW_agree (fun j w hj _ => ?_) rfl
        obtain ⟨o', _, e1, _, _⟩ := wsOf_get hj
        have := (List.getElem?_eq_some_iff.1 e1).1
        have := hall j (by omega)
        simpa using this
      have htm : ∀ t, tget s2.tm t = tget s'.tm t := fun t => by
        have := congrFun heq (.t t); simpa [sg] using this
      have hHe : ∀ c, hget s'.H c = hget Γ'.H c := fun c => by
        have := congrFun heq (.c c)
        simp only [sg, LV.h.injEq] at this
        rw [hn2.H]; exact this.symm
      have hnxe : s2.nx = s'.nx := by have := congrFun heq .x; simpa [sg] using this
      refine ⟨⟨rfl, ?_, ?_, ?_, hn2.df⟩, hev.reH hHe, ?_, ?_⟩
      · exact hn2.ok.part fun c ch hc => by rw [← hHe]; exact hc
      · exact (hn2.tr.congr htm (hL.trans t1.symm)).imp fun a x hx => hx.reH _
      · intro c hc; rw [← hnxe]; exact hn2.lt c hc
      · rw [← hnxe]; omega
      · intro c hc
        rcases hU c hc with h | ⟨j, _, rfl⟩ | h
        · exact .inl h
        · exact .inr (by omega)
        · exact .inr (by omega)
    induction fuel with
    | zero =>
      intro listed a' w' hsz hu hcl hI
      have hr : Region.ready .any ops listed = [] := by
        cases hr : Region.ready .any ops listed with
        | nil => rfl
        | cons x xs =>
          exfalso
          have hx : x ∈ Region.ready .any ops listed := by rw [hr]; simp
          rw [mem_ready] at hx
          obtain ⟨h1, o, ho, _⟩ := hx
          have hlt : x < ops.size := (Array.getElem?_eq_some_iff.1 ho).1
          have := unl_set hlt h1
          omega
      exact ⟨hr, fin listed a' w' hsz hr hI⟩
    | succ fuel ih =>
      intro listed a' w' hsz hu hcl hI
      refine ⟨fun hr => fin listed a' w' hsz hr hI, fun i hi => ?_⟩
      rw [mem_ready] at hi
      obtain ⟨hi0, o, ho, hedge⟩ := hi
      have hlt : i < ops.size := (Array.getElem?_eq_some_iff.1 ho).1
      have hDi : listed.getD i false = false := by rw [← getD_true_false (by omega)]; exact hi0
      obtain ⟨a0, e1, e2, e3, e4⟩ := hops ho
      obtain ⟨si, d, f1, f2, f3, f4⟩ := t4 i _ e3
      obtain ⟨g1, g2, g3⟩ := compOper_inv e2
      simp only [Nat.zero_add] at f2 f4
      have hedge' : ∀ e ∈ o.after.toList, Region.binds .any e = true → listed.getD e.on false = true := fun e he hb => hedge e (by simpa using he) hb
      have hahead := ahead_closed hE (D := fun j => listed.getD j false = true) hcl i o (by simpa using ho) hedge'
      -- one that is ordered with it has its place
      have hplace : ∀ {j : Nat} {aj : AOper} {dj : DR}, as[j]? = some aj → ds[j]? = some dj → j ≠ i → (listed.getD j false = decide (j < i)) ∨ Sep T { a0 with un := unOf T ((befs ops.toList []).getD i 0) a0 (as0.take i) 0 } aj d dj := by
        intro j aj dj hj hdj hne
        obtain ⟨oj, hoj⟩ := hof hj
        cases hb : ((befs ops.toList []).getD i 0).testBit j with
        | true =>
          obtain ⟨k1, k2⟩ := hahead j hb
          exact .inl (by rw [k1]; simp [k2])
        | false =>
          cases hb' : ((befs ops.toList []).getD j 0).testBit i with
          | true =>
            have hgt := hltb hoj i hb'
            refine .inl ?_
            have : listed.getD j false = false := by
              cases hl : listed.getD j false with
              | false => rfl
              | true =>
                exfalso
                obtain ⟨k1, _⟩ := ahead_closed hE (D := fun j => listed.getD j false = true) hcl j oj (by simpa using hoj) (hcl j oj (by simpa using hoj) hl) i hb'
                rw [hDi] at k1; simp at k1
            rw [this]
            simp; omega
          | false => exact .inr (hsep e3 hj f1 hdj hne hb hb')
      have hwi : (wsOf T (thas s.tm) as ds)[i]? = some (wOf T (thas s.tm) { a0 with un := unOf T ((befs ops.toList []).getD i 0) a0 (as0.take i) 0 } d) := wsOf_some e3 f1
      refine op_turn (Γ0 := Γ) (as := as) (ds := ds) (base := s.nx) (n := as.length) (L := (thas s.tm)) (D := fun j => listed.getD j false) (i := i) hT hex hnow.lt (by omega) hDi ho e3 f1 g1 g2 ?_ f2 f3 f4 ?_ ?_ ?_ hI
      · intro Γ2 tm2 a2 ht2
        exact wanted_ok e2 ht2
      · intro l hl
        refine (foldW_agree (fun j w hj hn => ?_) rfl)
        obtain ⟨aj, dj, x1, x2, rfl⟩ := wsOf_get hj
        simp only [Nat.zero_add]
        by_cases hji : j = i
        · subst hji; rw [hDi]; simp
        · rcases hplace x1 x2 hji with h | h
          · exact h.symm
          · exfalso
            cases l with
            | t k =>
              simp only [wOf] at hn
              split at hn
              · rename_i hk; exact (h.t k hk.1).1 hl
              · exact hn rfl
            | c c => exact h.rd c hl (wOf_chunk hn)
            | x =>
              simp only [wOf] at hn
              split at hn
              · rename_i hk; exact h.nx ⟨hl, hk⟩
              · exact hn rfl
      · refine foldW_insert hwi hDi ?_
        intro l hl j w hj hlt' hn
        obtain ⟨aj, dj, x1, x2, rfl⟩ := wsOf_get hj
        rcases hplace x1 x2 (by omega) with h | h
        · rw [h]; simp; omega
        · exfalso
          cases l with
          | t k =>
            simp only [wOf] at hn hl
            split at hn
            · rename_i hk
              split at hl
              · rename_i hk'; exact (h.t k hk.1).2 hk'.1
              · exact hl rfl
            · exact hn rfl
          | c c => exact h.dm c (wOf_chunk hl) (wOf_chunk hn)
          | x =>
            simp only [wOf] at hn hl
            split at hn
            · rename_i hk
              split at hl
              · rename_i hk'; exact h.nx ⟨hk', hk⟩
              · exact hl rfl
            · exact hn rfl
      · intro a2 w2 hI2
        have hfun : (fun j => (listed.setIfInBounds i true).getD j false) = fun j => listed.getD j false || j == i := by
          funext j
          by_cases hij : i = j
          · subst hij; simp [show i < listed.size by omega]
          · rw [getD_set_ne false hij]; simp [Ne.symm hij]
        refine ih _ a2 w2 (by simpa using hsz) ?_ ?_ ?_
        · have := unl_set hlt hi0
          omega
        · intro j oj hoj hl e he hb
          by_cases hij : i = j
          · subst hij
            have : oj = o := by
              have : ops[i]? = some oj := by simpa using hoj
              rw [ho] at this; injection this with this; exact this.symm
            subst this
            exact getD_set_true (hedge' e he hb)
          · rw [getD_set_ne false hij] at hl
            exact getD_set_true (hcl j oj hoj hl e he hb)
        · rw [hfun]; exact hI2
  obtain ⟨w1, w2⟩ := ev_world hnow.ok { Γ.w with drawn := Γ.w.drawn + 1 } rfl rfl rfl rfl
  refine wp_region_any hm (main ops.size _ a _ (by simp) ?_ ?_ ?_)
  · unfold unl
    exact Nat.le_trans (List.length_filter_le _ _) (by simp)
  · intro i o ho hl
    exfalso
    simp only [Array.getD_eq_getD_getElem?, Array.getElem?_replicate] at hl
    split at hl <;> simp at hl
  · refine ⟨{ Γ with w := { Γ.w with drawn := Γ.w.drawn + 1 } }, { s with nx := s.nx + as.length }, rfl, ⟨hnow.H, w2, ?_, ?_, hnow.df⟩, ?_, rfl, w1, Nat.le_refl _, fun c hc => .inl hc⟩
    · exact hnow.tr.imp fun a x hx => hx.ev hnow.ok w1
    · intro c hc; have := hnow.lt c hc; show c < s.nx + as.length; omega
    · rw [foldW_none]
      intro j _
      simp only [Array.getD_eq_getD_getElem?, Array.getElem?_replicate]
      split <;> rfl

end Go.Am

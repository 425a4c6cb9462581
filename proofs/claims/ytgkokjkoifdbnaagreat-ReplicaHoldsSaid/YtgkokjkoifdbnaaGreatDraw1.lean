import Derived.Test.YtgkokjkoifdbnaaGreatAm0
import Derived.Test.YtgkokjkoifdbnaaGreatMem
/- Regions whose order is open: what one operation needs and sets, in the interpreter. -/
namespace Go.Am
set_option autoImplicit false
set_option linter.unusedSimpArgs false
set_option linter.unusedVariables false

def AO.tl : AO → List Nat
  | .t i => [i]
  | .c _ => []
def oL : Option AO → List AO
  | none => []
  | some x => [x]
def pL : List (Nat × Nat × AO) → List AO
  | [] => []
  | p :: r => p.2.2 :: pL r
/-- What an operation reads. -/
def AOp.opds : AOp → List AO
  | .move x => [x]
  | .pick c a b => [c, a, b]
  | .alloc _ _ => []
  | .box _ _ x => [x]
  | .build _ ps => pL ps
  | .buildSlice _ _ _ _ ps => pL ps
  | .load _ _ x => [x]
  | .store _ a x => [a, x]
  | .nilChk x => [x]
  | .bin _ x y => [x, y]
  | .beq _ x y => [x, y]
  | .eqAgg _ _ x y => [x, y]
  | .eqNilS _ x => [x]
  | .eqNilP _ x => [x]
  | .un _ x => [x]
  | .conv _ x => [x]
  | .convS x => [x]
  | .b2s x => [x]
  | .s2b x => [x]
  | .mkfn _ cs => cs
  | .mkslice _ _ _ _ l c => [l, c]
  | .slice _ x lo hi mx => x :: (oL lo ++ (oL hi ++ oL mx))
  | .sliceS x lo hi => x :: (oL lo ++ oL hi)
  | .faddr _ x => [x]
  | .field _ _ _ x => [x]
  | .iaddr _ x i => [x, i]
  | .aaddr _ _ x i => [x, i]
  | .index x i => [x, i]
  | .aindex _ _ _ x i => [x, i]
  | .ext x _ => [x]
  | .call _ as => as
  | .callv f as => f :: as
  | .len x => [x]
  | .lenS x => [x]
  | .append _ _ _ s x => [s, x]
  | .copy _ d s => [d, s]
  | .clear _ _ s => [s]
  | .max xs => xs
  | .min xs => xs
  | .bad => []
def tmpsL : List AO → List Nat
  | [] => []
  | x :: r => x.tl ++ tmpsL r
def AOper.tmps (o : AOper) : List Nat := (match o.guard with
  | none => []
  | some (t, _) => [t]) ++ tmpsL o.op.opds

theorem tmpsL_mem {x : AO} {l : List AO} (h : x ∈ l) : ∀ t ∈ x.tl, t ∈ tmpsL l := by
  induction l with
  | nil => simp at h
  | cons y r ih =>
    intro t ht
    simp only [tmpsL, List.mem_append]
    rcases List.mem_cons.1 h with rfl | h
    · exact .inl ht
    · exact .inr (ih h t ht)

theorem ev_congr {tm tm' : TM} {l : List AO} (h : ∀ t ∈ tmpsL l, tget tm t = tget tm' t) : ∀ x ∈ l, x.ev tm = x.ev tm' := by
  intro x hx
  cases x with
  | t i => exact h i (tmpsL_mem hx i (by simp [AO.tl]))
  | c a => rfl
theorem map_ev_congr {tm tm' : TM} {l : List AO} (h : ∀ x ∈ l, x.ev tm = x.ev tm') : l.map (·.ev tm) = l.map (·.ev tm') := List.map_congr_left h
theorem oL_congr {tm tm' : TM} {o : Option AO} (h : ∀ x ∈ oL o, x.ev tm = x.ev tm') : o.map (·.ev tm) = o.map (·.ev tm') := by
  cases o with
  | none => rfl
  | some x => simp [h x (by simp [oL])]
theorem pL_congr {tm tm' : TM} {l : List (Nat × Nat × AO)} (h : ∀ x ∈ pL l, x.ev tm = x.ev tm') : (l.map fun p => (p.1, p.2.1, (p.2.2.ev tm).cells)) = l.map fun p => (p.1, p.2.1, (p.2.2.ev tm').cells) := by
  induction l with
  | nil => rfl
  | cons p r ih =>
    simp only [List.map_cons]
    rw [h p.2.2 (by simp [pL]), ih (fun x hx => h x (by simp [pL, hx]))]

theorem aop_congr {op : AOp} {tm tm' : TM} (h : ∀ x ∈ op.opds, x.ev tm = x.ev tm') (id : Nat) (H : Heap) : aop op tm id H = aop op tm' id H := by
  cases op with
  | build z ps => simp only [aop]; rw [pL_congr h]
  | buildSlice ty esz len z ps => simp only [aop]; rw [pL_congr h]
  | mkfn g cs => simp only [aop]; rw [map_ev_congr (l := cs) h]
  | slice esz x lo hi mx =>
    simp only [AOp.opds] at h
    simp only [aop]
    rw [h x (by simp), oL_congr (fun y hy => h y (by simp [hy])), oL_congr (o := hi) (fun y hy => h y (by simp [hy])), oL_congr (o := mx) (fun y hy => h y (by simp [hy]))]
  | sliceS x lo hi =>
    simp only [AOp.opds] at h
    simp only [aop]
    rw [h x (by simp), oL_congr (fun y hy => h y (by simp [hy])), oL_congr (o := hi) (fun y hy => h y (by simp [hy]))]
  | call g as => simp only [aop]; rw [map_ev_congr (l := as) h]
  | callv f as =>
    simp only [AOp.opds] at h
    simp only [aop]
    rw [h f (by simp), map_ev_congr (fun x hx => h x (by simp [hx]))]
  | max xs => simp only [aop]; rw [map_ev_congr (l := xs) h]
  | min xs => simp only [aop]; rw [map_ev_congr (l := xs) h]
  | alloc ty z => rfl
  | bad => rfl
  | pick c a b => simp only [AOp.opds] at h; simp only [aop]; rw [h c (by simp), h a (by simp), h b (by simp)]
  | store sz a b => simp only [AOp.opds] at h; simp only [aop]; rw [h a (by simp), h b (by simp)]
  | bin o a b => simp only [AOp.opds] at h; simp only [aop]; rw [h a (by simp), h b (by simp)]
  | beq o a b => simp only [AOp.opds] at h; simp only [aop]; rw [h a (by simp), h b (by simp)]
  | eqAgg o k a b => simp only [AOp.opds] at h; simp only [aop]; rw [h a (by simp), h b (by simp)]
  | mkslice ty e by' z a b => simp only [AOp.opds] at h; simp only [aop]; rw [h a (by simp), h b (by simp)]
  | iaddr e a b => simp only [AOp.opds] at h; simp only [aop]; rw [h a (by simp), h b (by simp)]
  | aaddr e l a b => simp only [AOp.opds] at h; simp only [aop]; rw [h a (by simp), h b (by simp)]
  | index a b => simp only [AOp.opds] at h; simp only [aop]; rw [h a (by simp), h b (by simp)]
  | aindex g e l a b => simp only [AOp.opds] at h; simp only [aop]; rw [h a (by simp), h b (by simp)]
  | append ty e by' a b => simp only [AOp.opds] at h; simp only [aop]; rw [h a (by simp), h b (by simp)]
  | copy e a b => simp only [AOp.opds] at h; simp only [aop]; rw [h a (by simp), h b (by simp)]
  | _ =>
    simp only [AOp.opds, List.mem_singleton, forall_eq] at h
    simp only [aop]
    rw [h]

/-- An operation that makes nothing leaves memory as it was. -/
theorem aop_same {T : Table} {op : AOp} (hm : op.makes T = false) {tm : TM} {id : Nat} {H H' : Heap} {a : AV} (h : aop op tm id H = some (.val a H')) : H' = H := by
  have hout : ∀ {o : Option AV}, out H o = some (.val a H') → H' = H := by
    intro o ho
    cases o with
    | none => simp [out] at ho
    | some x => simp only [out, Option.map_some, Option.some.injEq, Out.val.injEq] at ho; exact ho.2.symm
  cases op with
  | alloc => simp [AOp.makes] at hm
  | box => simp [AOp.makes] at hm
  | buildSlice => simp [AOp.makes] at hm
  | mkslice => simp [AOp.makes] at hm
  | store => simp [AOp.makes] at hm
  | append => simp [AOp.makes] at hm
  | copy => simp [AOp.makes] at hm
  | clear => simp [AOp.makes] at hm
  | callv => simp [AOp.makes] at hm
  | call g as => simp [aop] at h
  | _ =>
    simp only [aop, cond_eq_ite] at h
    first
      | exact hout h
      | (simp only [Option.some.injEq, Out.val.injEq] at h; exact h.2.symm)
      | (repeat' (split at h)) <;> first | exact hout h | (simp only [Option.some.injEq, Out.val.injEq] at h; exact h.2.symm) | (simp at h; done)

/-- The numbers that a call gives out count only where functions run in the caller's memory. -/
theorem callF_nx {T : Table} {ex : Exec} {id g : Nat} {args : List AV} {H H' : Heap} {nx nx' : Nat} {r : AV} (hg : inG T g = false) (h : callF T ex id g args H nx = some (r, H', nx')) :
    nx' = nx ∧ ∀ m, callF T ex id g args H m = some (r, H', m) := by
  unfold callF at h ⊢
  cases hT : T g with
  | none => simp [hT] at h
  | some e =>
    cases e with
    | prim p =>
      simp only [hT] at h ⊢
      cases hp : p id args H with
      | none => simp [hp] at h
      | some x =>
        obtain ⟨r', H2⟩ := x
        simp only [hp, Option.some.injEq, Prod.mk.injEq] at h ⊢
        exact ⟨h.2.2.symm, fun m => ⟨h.1, h.2.1, trivial⟩⟩
    | code f mm =>
      have ho : f.own = true := by simpa [inG, hT] using hg
      simp only [hT, ho, cond_true] at h ⊢
      split at h
      · simp at h
      · rename_i args' ha
        split at h
        · rename_i r' hm
          simp only [Option.some.injEq, Prod.mk.injEq] at h
          obtain ⟨rfl, rfl, rfl⟩ := h
          exact ⟨rfl, fun m => by simp [hm]⟩
        · rename_i hm
          split at h
          · simp at h
          · rename_i r2 H2 n2 hr2
            split at h
            · simp at h
            · rename_i r' hr'
              simp only [Option.some.injEq, Prod.mk.injEq] at h
              obtain ⟨rfl, rfl, rfl⟩ := h
              exact ⟨rfl, fun m => by simp [hm, hr2, hr']⟩
theorem callF_own {T : Table} {ex : Exec} {id g : Nat} {args : List AV} {H H' : Heap} {nx nx' : Nat} {r : AV} (hg : ownG T g = true) (h : callF T ex id g args H nx = some (r, H', nx')) : H' = H := by
  unfold callF at h
  cases hT : T g with
  | none => simp [hT] at h
  | some e =>
    cases e with
    | prim p => simp [ownG, hT] at hg
    | code f mm =>
      have ho : f.own = true := by simpa [ownG, hT] using hg
      simp only [hT, ho, cond_true] at h
      split at h
      · simp at h
      · split at h
        · simp only [Option.some.injEq, Prod.mk.injEq] at h
          exact h.2.1.symm
        · split at h
          · simp at h
          · split at h
            · simp at h
            · simp only [Option.some.injEq, Prod.mk.injEq] at h
              exact h.2.1.symm

theorem hpart_nil (b : Bool) (H : Heap) : hpart b [] H = if b then [] else H := by
  induction H with
  | nil => cases b <;> rfl
  | cons p r ih =>
    obtain ⟨k, ch⟩ := p
    simp only [hpart, memN, ih]
    cases b <;> rfl
theorem hget_hin (t : List Nat) (H : Heap) (c : Nat) : hget (hin t H) c = if memN c t = true then hget H c else none := by
  have : hin t H = hpart true t H := by
    cases t with
    | nil => simp [hin, hpart_nil]
    | cons x r => rfl
  rw [this, hget_hpart]
theorem hget_hout (t : List Nat) (H : Heap) (c : Nat) : hget (hout t H) c = if memN c t = false then hget H c else none := by
  have : hout t H = hpart false t H := by
    cases t with
    | nil => simp [hout, hpart_nil]
    | cons x r => rfl
  rw [this, hget_hpart]

/-! ### States as places -/
inductive Loc where
  | t (n : Nat)
  | c (n : Nat)
  | x
inductive LV where
  | a (x : AV)
  | h (x : Option Ch)
  | n (x : Nat)
abbrev Sg := Loc → LV
abbrev Wr := Loc → Option LV
def Wr.ap (w : Wr) (σ : Sg) : Sg := fun l => (w l).getD (σ l)
def foldW (D : Nat → Bool) : List Wr → Nat → Sg → Sg
  | [], _, σ => σ
  | w :: ws, k, σ => foldW D ws (k + 1) (bif D k then w.ap σ else σ)

theorem foldW_agree {D D' : Nat → Bool} {l : Loc} : ∀ {ws : List Wr} {k : Nat} {σ σ' : Sg}, (∀ j w, ws[j]? = some w → w l ≠ none → D (k + j) = D' (k + j)) → σ l = σ' l → foldW D ws k σ l = foldW D' ws k σ' l
  | [], k, σ, σ', _, h => h
  | w :: ws, k, σ, σ', hD, h => by
    simp only [foldW]
    refine foldW_agree (fun j w' hj hn => ?_) ?_
    · have := hD (j + 1) w' (by simpa using hj) hn
      rwa [show k + 1 + j = k + (j + 1) by omega]
    · cases hw : w l with
      | none => cases D k <;> cases D' k <;> simp [Wr.ap, hw, h]
      | some v =>
        have := hD 0 w rfl (by simp [hw])
        simp only [Nat.add_zero] at this
        rw [← this]
        cases D k <;> simp [Wr.ap, hw, h]
theorem foldW_last {D : Nat → Bool} {l : Loc} {v : LV} : ∀ {ws : List Wr} {k m : Nat} {w : Wr} {σ : Sg}, ws[m]? = some w → w l = some v → D (k + m) = true → (∀ j w', ws[j]? = some w' → m < j → w' l ≠ none → D (k + j) = false) → foldW D ws k σ l = v
  | [], k, m, w, σ, h, _, _, _ => by simp at h
  | w0 :: ws, k, 0, w, σ, h, hv, hD, hl => by
    simp only [List.getElem?_cons_zero, Option.some.injEq] at h
    subst h
    simp only [foldW]
    simp only [Nat.add_zero] at hD
    have : foldW D ws (k + 1) (bif D k then w0.ap σ else σ) l = foldW (fun _ => false) ws (k + 1) (bif D k then w0.ap σ else σ) l := by
      refine foldW_agree (fun j w' hj hn => ?_) rfl
      have := hl (j + 1) w' (by simpa using hj) (by omega) hn
      rwa [show k + 1 + j = k + (j + 1) by omega]
    rw [this]
    have none' : ∀ (ws : List Wr) (k : Nat) (σ : Sg), foldW (fun _ => false) ws k σ = σ := by
      intro ws
      induction ws with
      | nil => intro k σ; rfl
      | cons w r ih => intro k σ; simp [foldW, ih]
    rw [none', hD]
    simp [Wr.ap, hv]
  | w0 :: ws, k, m + 1, w, σ, h, hv, hD, hl => by
    simp only [foldW]
    refine foldW_last (m := m) (w := w) (by simpa using h) hv (by rwa [show k + 1 + m = k + (m + 1) by omega]) (fun j w' hj hm hn => ?_)
    have := hl (j + 1) w' (by simpa using hj) (by omega) hn
    rwa [show k + 1 + j = k + (j + 1) by omega]
theorem foldW_none (ws : List Wr) {D : Nat → Bool} {k : Nat} {σ : Sg} (h : ∀ j, k ≤ j → D j = false) : foldW D ws k σ = σ := by
  induction ws generalizing k with
  | nil => rfl
  | cons w r ih => simp only [foldW, h k (Nat.le_refl k), cond_false]; exact ih (fun j hj => h j (by omega))

/-- One more: where no later one that was taken sets the same. -/
theorem foldW_insert {D : Nat → Bool} {ws : List Wr} {i : Nat} {w : Wr} {σ : Sg} (hi : ws[i]? = some w) (hD : D i = false)
    (h : ∀ l, w l ≠ none → ∀ j w', ws[j]? = some w' → i < j → w' l ≠ none → D j = false) : foldW (fun j => D j || j == i) ws 0 σ = w.ap (foldW D ws 0 σ) := by
  funext l
  cases hw : w l with
  | none =>
    simp only [Wr.ap, hw, Option.getD_none]
    refine foldW_agree (fun j w' hj hn => ?_) rfl
    have : j ≠ i := fun e => by subst e; rw [hi] at hj; injection hj with hj; subst hj; exact hn hw
    simp [this]
  | some v =>
    simp only [Wr.ap, hw, Option.getD_some]
    refine foldW_last hi hw (by simp) (fun j w' hj hm hn => ?_)
    have := h l (by simp [hw]) j w' hj hm hn
    simp [this]; omega

end Go.Am

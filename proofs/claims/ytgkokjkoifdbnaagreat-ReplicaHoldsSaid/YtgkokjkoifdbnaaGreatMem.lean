import Derived.Test.YtgkokjkoifdbnaaGreatRel
/- Memory: how the machine's loads, stores and new rows go, and what becomes of the relation. -/
namespace Go.Am
set_option autoImplicit false
set_option linter.unusedSimpArgs false
set_option linter.unusedVariables false

theorem nbeq_false {k c : Nat} (h : k ≠ c) : Nat.beq k c = false := by
  cases h2 : Nat.beq k c
  · rfl
  · exact absurd (Nat.eq_of_beq_eq_true h2) h
theorem hget_cons (k : Nat) (ch : Ch) (H : Heap) (c : Nat) : hget ((k, ch) :: H) c = if k = c then some ch else hget H c := by
  simp only [hget]
  by_cases h : k = c
  · subst h; simp
  · have : Nat.beq k c = false := nbeq_false h
    simp [this, h]
theorem hget_hset (H : Heap) (c : Nat) (x : Ch) (c' : Nat) : hget (hset H c x) c' = if c' = c then (hget H c).map (fun _ => x) else hget H c' := by
  induction H with
  | nil => simp [hset, hget]
  | cons p r ih =>
    obtain ⟨k, ch⟩ := p
    simp only [hset]
    by_cases hk : k = c
    · subst hk
      simp only [Nat.beq_refl, cond_true, hget_cons]
      by_cases hc : c' = k
      · subst hc; simp
      · simp [hc, Ne.symm hc]
    · have hb : Nat.beq k c = false := nbeq_false hk
      simp only [hb, cond_false, hget_cons, ih]
      by_cases hc : c' = c
      · subst hc; simp [hk]
      · simp [hc]
theorem hget_hdel (H : Heap) (c c' : Nat) : hget (hdel H c) c' = if c' = c then none else hget H c' := by
  induction H with
  | nil => simp [hdel, hget]
  | cons p r ih =>
    obtain ⟨k, ch⟩ := p
    simp only [hdel]
    by_cases hk : k = c
    · subst hk
      simp only [Nat.beq_refl, cond_true, ih, hget_cons]
      by_cases hc : c' = k
      · simp [hc]
      · simp [hc, Ne.symm hc]
    · have hb : Nat.beq k c = false := nbeq_false hk
      simp only [hb, cond_false, hget_cons, ih]
      by_cases hc : c' = c
      · subst hc; simp [hk]
      · simp [hc]
theorem hget_append (H G : Heap) (c : Nat) : hget (H ++ G) c = match hget H c with | some x => some x | none => hget G c := by
  induction H with
  | nil => simp [hget]
  | cons p r ih =>
    obtain ⟨k, ch⟩ := p
    simp only [List.cons_append, hget_cons, ih]
    split <;> simp
theorem hget_hpart (b : Bool) (ids : List Nat) (H : Heap) (c : Nat) : hget (hpart b ids H) c = if memN c ids = b then hget H c else none := by
  induction H with
  | nil => simp [hpart, hget]
  | cons p r ih =>
    obtain ⟨k, ch⟩ := p
    simp only [hpart]
    by_cases hk : memN k ids = b
    · have : (memN k ids == b) = true := by simpa using hk
      simp only [this, cond_true, hget_cons, ih]
      by_cases hc : k = c
      · subst hc; simp [hk]
      · simp [hc]
    · have : (memN k ids == b) = false := by simpa using hk
      simp only [this, cond_false, hget_cons, ih]
      by_cases hc : k = c
      · subst hc; simp [hk]
      · simp [hc]

/-! ### Single values -/
theorem RL.one {Γ : Ctx} {a : AV} {v : Value} (h : RL Γ a v) (ho : oneA a = true) : v.oneCell' = true := by
  cases h with
  | tree h =>
    cases h with
    | v => cases v <;> first | rfl | simp [oneA] at ho
    | agg => simp [oneA] at ho
    | tup => simp [oneA] at ho
    | _ => rfl
  | ptr => rfl
  | osl => rfl
  | fn => rfl
  | agg => simp [oneA] at ho
  | tup => simp [oneA] at ho
theorem oneAll_spec {xs : List AV} (h : oneAll xs = true) : ∀ a ∈ xs, oneA a = true := by
  induction xs with
  | nil => intro a ha; simp at ha
  | cons x r ih =>
    simp only [oneAll, Bool.and_eq_true] at h
    intro a ha
    rcases List.mem_cons.1 ha with rfl | ha
    · exact h.1
    · exact ih h.2 a ha
theorem All2.one {Γ : Ctx} {xs : List AV} {vs : List Value} (h : All2 (RL Γ) xs vs) (ho : oneAll xs = true) : ∀ v ∈ vs, v.oneCell' = true := by
  intro v hv
  obtain ⟨j, hj, rfl⟩ := List.mem_iff_getElem.1 hv
  have hj' : j < xs.length := h.1 ▸ hj
  exact (h.2 j xs[j] vs[j] (by simp [hj']) (by simp [hj])).one (oneAll_spec ho _ (List.getElem_mem _))

/-! ### The world's rows -/
theorem setRow_get (w : World) (g : Nat) (new cur : Array Value) (t : TypeId) (fr : Nat × Nat) (h : w.heap[g]? = some (.cells cur t fr)) : (w.setRow g new).heap[g]? = some (.cells new t fr) := setRow_heap w g cur new t fr h
theorem setRow_other (w : World) (g : Nat) (new : Array Value) (b : Nat) (h : b ≠ g) : (w.setRow g new).heap[b]? = w.heap[b]? := by
  simp [World.setRow, Array.getElem?_modify, Ne.symm h]
theorem setRow_size (w : World) (g : Nat) (new : Array Value) : (w.setRow g new).heap.size = w.heap.size := by simp [World.setRow]
theorem alloc_heap (w : World) (o : Obj) : (w.alloc o).heap = w.heap.push o := rfl
theorem alloc_new (w : World) (o : Obj) : (w.alloc o).heap[w.heap.size]? = some o := by rw [alloc_heap]; simp
theorem alloc_old (w : World) (o : Obj) (b : Nat) (h : b < w.heap.size) : (w.alloc o).heap[b]? = w.heap[b]? := by
  rw [alloc_heap]; simp [Array.getElem?_push, Nat.ne_of_lt h]
theorem alloc_size (w : World) (o : Obj) : (w.alloc o).heap.size = w.heap.size + 1 := by rw [alloc_heap]; simp
theorem heap_lt {w : World} {b : Nat} {o : Obj} (h : w.heap[b]? = some o) : b < w.heap.size := (Array.getElem?_eq_some_iff.1 h).1

/-! ### What becomes of the relation -/
/-- The same memory, some draws later, or a world of the same memory. -/
theorem ev_world {Γ : Ctx} (hR : HRel Γ) (w' : World) (hh : w'.heap = Γ.w.heap) (ho : w'.os = Γ.w.os) (ht : w'.tape = Γ.w.tape) (hp : w'.output = Γ.w.output) :
    Ev Γ { Γ with w := w' } ∧ HRel { Γ with w := w' } := by
  have hE : Ev Γ { Γ with w := w' } :=
    ⟨fun _ h => h, fun _ ch _ h => ⟨ch, h, rfl, rfl⟩, fun _ h => h, fun _ h => .inl h, by simp [hh], fun b _ hf => ⟨by simp [hh], hf⟩, ho, ht, hp, fun _ _ => ⟨rfl, rfl⟩⟩
  refine ⟨hE, ⟨fun c ch hc => ?_, hR.inj, hR.sep, fun b hb => by simpa [hh] using hR.bnd b hb⟩⟩
  obtain ⟨hU, arr, h1, h2, h3, h4⟩ := hR.ok c ch hc
  exact ⟨hU, arr, by simpa [hh] using h1, h2, h3, fun j a x ha hx => (h4 j a x ha hx).ev hR hE⟩

/-- A new chunk in a new block; some chunks may go. -/
theorem ev_alloc {Γ : Ctx} (hR : HRel Γ) (id : Nat) (hid : ¬ Γ.U id) (H0 : Heap) (hsub : ∀ c ch, hget H0 c = some ch → hget Γ.H c = some ch)
    (ty : Nat) (cells : List AV) (arr : Array Value) (hlen : cells.length ≤ arr.size)
    (hc : ∀ (j : Nat) (a : AV) (x : Value), cells[j]? = some a → arr[j]? = some x → RL Γ a x) :
    let Γ' : Ctx := { H := (id, ⟨ty, cells⟩) :: H0, U := fun c => Γ.U c ∨ c = id, blk := fun c => if c = id then Γ.w.heap.size else Γ.blk c,
                      siz := fun c => if c = id then arr.size else Γ.siz c, F := Γ.F, w := Γ.w.alloc (.cells arr ty (0, 0)) }
    Ev Γ Γ' ∧ HRel Γ' := by
  intro Γ'
  have hne : ∀ c ch, hget H0 c = some ch → c ≠ id := fun c ch h he => hid (he ▸ (hR.ok c ch (hsub c ch h)).1)
  have hget' : ∀ c ch, hget Γ'.H c = some ch → (c = id ∧ ch = ⟨ty, cells⟩) ∨ (c ≠ id ∧ hget H0 c = some ch) := by
    intro c ch h
    simp only [Γ', hget_cons] at h
    split at h
    · rename_i he; exact .inl ⟨he.symm, by simpa using h.symm⟩
    · exact .inr ⟨fun he => hne c ch h he, h⟩
  have hblt : ∀ c ch, hget Γ.H c = some ch → Γ.blk c < Γ.w.heap.size := fun c ch h => by
    obtain ⟨_, arr', h1, _⟩ := hR.ok c ch h; exact heap_lt h1
  have hE : Ev Γ Γ' := by
    refine ⟨fun c h => .inl h, ?_, fun _ h => h, fun _ h => .inl h, by simp [Γ', alloc_size], ?_, rfl, rfl, rfl, fun c hc => by
      have : c ≠ id := fun h => hid (h ▸ hc)
      simp [Γ', this]⟩
    · intro c ch' hU h
      rcases hget' c ch' h with ⟨rfl, _⟩ | ⟨hn, h0⟩
      · exact absurd hU hid
      · exact ⟨ch', hsub c ch' h0, by simp [Γ', hn], by simp [Γ', hn]⟩
    · intro b hb hf
      refine ⟨alloc_old _ _ _ hb, fun c ch h => ?_⟩
      rcases hget' c ch h with ⟨rfl, _⟩ | ⟨hn, h0⟩
      · simp [Γ']; omega
      · simp [Γ', hn]; exact hf c ch (hsub c ch h0)
  refine ⟨hE, ⟨?_, ?_, ?_, ?_⟩⟩
  · intro c ch h
    rcases hget' c ch h with ⟨rfl, rfl⟩ | ⟨hn, h0⟩
    · exact ⟨.inr rfl, arr, by simp only [Γ', if_true]; exact alloc_new _ _, by simp [Γ'], hlen, fun j a x h1 h2 => (hc j a x h1 h2).ev hR hE⟩
    · obtain ⟨hU, arr', h1, h2, h3, h4⟩ := hR.ok c ch (hsub c ch h0)
      exact ⟨.inl hU, arr', by simp [Γ', hn, alloc_old _ _ _ (heap_lt h1), h1], by simp [Γ', hn, h2], h3, fun j a x ha hx => (h4 j a x ha hx).ev hR hE⟩
  · intro c c' ch ch' h h' he
    rcases hget' c ch h with ⟨rfl, _⟩ | ⟨hn, h0⟩ <;> rcases hget' c' ch' h' with ⟨rfl, _⟩ | ⟨hn', h0'⟩
    · rfl
    · simp [Γ', hn'] at he; have := hblt c' ch' (hsub _ _ h0'); omega
    · simp [Γ', hn] at he; have := hblt c ch (hsub _ _ h0); omega
    · simp [Γ', hn, hn'] at he; exact hR.inj c c' ch ch' (hsub _ _ h0) (hsub _ _ h0') he
  · intro c ch h hF
    rcases hget' c ch h with ⟨rfl, _⟩ | ⟨hn, h0⟩
    · simp [Γ'] at hF; have := hR.bnd _ hF; omega
    · simp [Γ', hn] at hF; exact hR.sep c ch (hsub _ _ h0) hF
  · intro b hb
    have := hR.bnd b hb
    simp [Γ', alloc_size]; omega

/-- A chunk's content is another one, in its own block. -/
theorem ev_set {Γ : Ctx} (hR : HRel Γ) (c : Nat) (ch : Ch) (hg : hget Γ.H c = some ch) (cells : List AV) (arr cur : Array Value)
    (hb : Γ.w.heap[Γ.blk c]? = some (.cells cur ch.ty (0, 0))) (hsz : arr.size = cur.size) (hlen : cells.length ≤ arr.size)
    (hc : ∀ (j : Nat) (a : AV) (x : Value), cells[j]? = some a → arr[j]? = some x → RL Γ a x) :
    let Γ' : Ctx := { Γ with H := hset Γ.H c { ch with cells := cells }, w := Γ.w.setRow (Γ.blk c) arr }
    Ev Γ Γ' ∧ HRel Γ' := by
  intro Γ'
  have hget' : ∀ c' ch', hget Γ'.H c' = some ch' → (c' = c ∧ ch' = { ch with cells := cells }) ∨ (c' ≠ c ∧ hget Γ.H c' = some ch') := by
    intro c' ch' h
    simp only [Γ', hget_hset] at h
    split at h
    · rename_i he; simp [hg] at h; exact .inl ⟨he, h.symm⟩
    · rename_i he; exact .inr ⟨he, h⟩
  have hE : Ev Γ Γ' := by
    refine ⟨fun c h => h, ?_, fun _ h => h, fun _ h => .inl h, by simp [Γ', setRow_size], ?_, rfl, rfl, rfl, fun _ _ => ⟨rfl, rfl⟩⟩
    · intro c' ch' hU h
      rcases hget' c' ch' h with ⟨rfl, _⟩ | ⟨_, h0⟩
      · exact ⟨ch, hg, rfl, rfl⟩
      · exact ⟨ch', h0, rfl, rfl⟩
    · intro b _ hf
      refine ⟨setRow_other _ _ _ _ (fun he => hf c ch hg he.symm), fun c' ch' h => ?_⟩
      rcases hget' c' ch' h with ⟨rfl, _⟩ | ⟨_, h0⟩
      · exact hf _ ch hg
      · exact hf c' ch' h0
  have hU := (hR.ok c ch hg).1
  obtain ⟨_, arr0, h1, h2, _, _⟩ := hR.ok c ch hg
  have hcur : arr0 = cur := by rw [hb] at h1; injection h1 with h1; injection h1 with h1; exact h1.symm
  refine ⟨hE, ⟨?_, ?_, ?_, ?_⟩⟩
  · intro c' ch' h
    rcases hget' c' ch' h with ⟨rfl, rfl⟩ | ⟨hn, h0⟩
    · exact ⟨hU, arr, setRow_get _ _ _ _ _ _ hb, by rw [hsz, ← hcur]; exact h2, hlen, fun j a x ha hx => (hc j a x ha hx).ev hR hE⟩
    · obtain ⟨hU', arr', h1', h2', h3', h4'⟩ := hR.ok c' ch' h0
      refine ⟨hU', arr', ?_, h2', h3', fun j a x ha hx => (h4' j a x ha hx).ev hR hE⟩
      exact (setRow_other _ _ _ _ (fun he => hn (hR.inj c' c ch' ch h0 hg he))).trans h1'
  · intro c1 c2 ch1 ch2 g1 g2 he
    rcases hget' c1 ch1 g1 with ⟨rfl, _⟩ | ⟨_, g1'⟩ <;> rcases hget' c2 ch2 g2 with ⟨rfl, _⟩ | ⟨_, g2'⟩
    · rfl
    · exact hR.inj _ _ ch ch2 hg g2' he
    · exact hR.inj _ _ ch1 ch g1' hg he
    · exact hR.inj _ _ ch1 ch2 g1' g2' he
  · intro c' ch' h
    rcases hget' c' ch' h with ⟨rfl, _⟩ | ⟨_, h0⟩
    · exact hR.sep _ ch hg
    · exact hR.sep c' ch' h0
  · intro b hb'
    simpa [Γ', setRow_size] using hR.bnd b hb'

/-- A chunk goes over into a new one, in the same block. -/
theorem ev_move {Γ : Ctx} (hR : HRel Γ) (c id : Nat) (hid : ¬ Γ.U id) (ch : Ch) (hg : hget Γ.H c = some ch) (cells : List AV) (arr cur : Array Value)
    (hb : Γ.w.heap[Γ.blk c]? = some (.cells cur ch.ty (0, 0))) (hsz : arr.size = cur.size) (hlen : cells.length ≤ arr.size)
    (hc : ∀ (j : Nat) (a : AV) (x : Value), cells[j]? = some a → arr[j]? = some x → RL Γ a x) :
    let Γ' : Ctx := { H := (id, ⟨ch.ty, cells⟩) :: hdel Γ.H c, U := fun k => Γ.U k ∨ k = id, blk := fun k => if k = id then Γ.blk c else Γ.blk k,
                      siz := fun k => if k = id then Γ.siz c else Γ.siz k, F := Γ.F, w := Γ.w.setRow (Γ.blk c) arr }
    Ev Γ Γ' ∧ HRel Γ' := by
  intro Γ'
  have hU := (hR.ok c ch hg).1
  have hcid : c ≠ id := fun h => hid (h ▸ hU)
  have hget' : ∀ c' ch', hget Γ'.H c' = some ch' → (c' = id ∧ ch' = ⟨ch.ty, cells⟩) ∨ (c' ≠ id ∧ c' ≠ c ∧ hget Γ.H c' = some ch') := by
    intro c' ch' h
    simp only [Γ', hget_cons, hget_hdel] at h
    split at h
    · rename_i he; exact .inl ⟨he.symm, by simpa using h.symm⟩
    · rename_i he
      split at h
      · simp at h
      · rename_i hn; exact .inr ⟨Ne.symm he, hn, h⟩
  have hE : Ev Γ Γ' := by
    refine ⟨fun c h => .inl h, ?_, fun _ h => h, fun _ h => .inl h, by simp [Γ', setRow_size], ?_, rfl, rfl, rfl, fun c hc => by
      have : c ≠ id := fun h => hid (h ▸ hc)
      simp [Γ', this]⟩
    · intro c' ch' hU' h
      rcases hget' c' ch' h with ⟨rfl, _⟩ | ⟨hn, _, h0⟩
      · exact absurd hU' hid
      · exact ⟨ch', h0, by simp [Γ', hn], by simp [Γ', hn]⟩
    · intro b _ hf
      refine ⟨setRow_other _ _ _ _ (fun he => hf c ch hg he.symm), fun c' ch' h => ?_⟩
      rcases hget' c' ch' h with ⟨rfl, _⟩ | ⟨hn, _, h0⟩
      · simp [Γ']; exact hf c ch hg
      · simp [Γ', hn]; exact hf c' ch' h0
  obtain ⟨_, arr0, h1, h2, _, _⟩ := hR.ok c ch hg
  have hcur : arr0 = cur := by rw [hb] at h1; injection h1 with h1; injection h1 with h1; exact h1.symm
  refine ⟨hE, ⟨?_, ?_, ?_, ?_⟩⟩
  · intro c' ch' h
    rcases hget' c' ch' h with ⟨rfl, rfl⟩ | ⟨hn, hn', h0⟩
    · refine ⟨.inr rfl, arr, ?_, ?_, hlen, fun j a x ha hx => (hc j a x ha hx).ev hR hE⟩
      · simp only [Γ', if_true]; exact setRow_get _ _ _ _ _ _ hb
      · simp only [Γ', if_true]; rw [hsz, ← hcur]; exact h2
    · obtain ⟨hU', arr', h1', h2', h3', h4'⟩ := hR.ok c' ch' h0
      refine ⟨.inl hU', arr', ?_, by simp [Γ', hn, h2'], h3', fun j a x ha hx => (h4' j a x ha hx).ev hR hE⟩
      simp only [Γ', hn, if_false]
      exact (setRow_other _ _ _ _ (fun he => hn' (hR.inj c' c ch' ch h0 hg he))).trans h1'
  · intro c1 c2 ch1 ch2 g1 g2 he
    rcases hget' c1 ch1 g1 with ⟨rfl, _⟩ | ⟨hn1, hc1, g1'⟩ <;> rcases hget' c2 ch2 g2 with ⟨rfl, _⟩ | ⟨hn2, hc2, g2'⟩
    · rfl
    · simp [Γ', hn2] at he; exact absurd (hR.inj _ _ ch ch2 hg g2' he).symm hc2
    · simp [Γ', hn1] at he; exact absurd (hR.inj _ _ ch1 ch g1' hg he) hc1
    · simp [Γ', hn1, hn2] at he; exact hR.inj _ _ ch1 ch2 g1' g2' he
  · intro c' ch' h
    rcases hget' c' ch' h with ⟨rfl, _⟩ | ⟨hn, _, h0⟩
    · simp only [Γ', if_true]; exact hR.sep c ch hg
    · simp only [Γ', hn, if_false]; exact hR.sep c' ch' h0
  · intro b hb'
    simpa [Γ', setRow_size] using hR.bnd b hb'

/-- New blocks that nobody holds may be taken for memory that stays. -/
theorem ev_frozen {Γ : Ctx} (hR : HRel Γ) (w' : World) (F' : Nat → Prop) (hF : ∀ b, F' b → Γ.w.heap.size ≤ b ∧ b < w'.heap.size)
    (hs : Γ.w.heap.size ≤ w'.heap.size) (hk : ∀ b, b < Γ.w.heap.size → w'.heap[b]? = Γ.w.heap[b]?) (ho : w'.os = Γ.w.os) (ht : w'.tape = Γ.w.tape) (hp : w'.output = Γ.w.output) :
    Ev Γ { Γ with w := w', F := fun b => Γ.F b ∨ F' b } ∧ HRel { Γ with w := w', F := fun b => Γ.F b ∨ F' b } := by
  have hE : Ev Γ { Γ with w := w', F := fun b => Γ.F b ∨ F' b } :=
    ⟨fun _ h => h, fun _ ch _ h => ⟨ch, h, rfl, rfl⟩, fun _ h => .inl h, fun b h => h.imp id fun h => (hF b h).1, hs, fun b hb hf => ⟨hk b hb, hf⟩, ho, ht, hp, fun _ _ => ⟨rfl, rfl⟩⟩
  refine ⟨hE, ⟨fun c ch hc => ?_, hR.inj, ?_, ?_⟩⟩
  · obtain ⟨hU, arr, h1, h2, h3, h4⟩ := hR.ok c ch hc
    exact ⟨hU, arr, (hk _ (heap_lt h1)).trans h1, h2, h3, fun j a x ha hx => (h4 j a x ha hx).ev hR hE⟩
  · intro c ch hc hf
    obtain ⟨hU, arr, h1, _⟩ := hR.ok c ch hc
    rcases hf with hf | hf
    · exact hR.sep c ch hc hf
    · have := (hF _ hf).1; have := heap_lt h1; simp at *; omega
  · intro b hb
    rcases hb with hb | hb
    · exact Nat.lt_of_lt_of_le (hR.bnd b hb) hs
    · exact (hF b hb).2

end Go.Am

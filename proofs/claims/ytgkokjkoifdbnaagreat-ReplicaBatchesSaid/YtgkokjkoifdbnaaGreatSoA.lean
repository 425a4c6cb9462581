import Derived.Test.YtgkokjkoifdbnaaGreatAm0
import Derived.Laws.CopyRow
import Derived.Laws.IdiomCopy
import Derived.Laws.AppendOwn
import Derived.Laws.StructEq
/- What a value of the interpreter is in the machine's memory. -/
namespace Go.Am
set_option autoImplicit false

/-- A tree, in memory that stays (F). -/
inductive RT (F : Nat → Prop) (w : World) : AV → Value → Prop
  | v (x : Value) : RT F w (.v x) x
  | eptr (b off : Nat) (cells : List AV) (f : Nat → Value) (hF : F b)
      (hc : ∀ (j : Nat) (a : AV), cells[j]? = some a → w.cell? ⟨b, off + j, none⟩ = some (f j))
      (hr : ∀ (j : Nat) (a : AV), cells[j]? = some a → RT F w a (f j)) : RT F w (.eptr cells) (.pointer (some ⟨b, off, none⟩))
  | fnil (a : Addr) (cap : Nat) : RT F w (.fsl 0 []) (.slice (some a) 0 cap)
  | fsl (b off len cap : Nat) (cells : List AV) (f : Nat → Value) (hF : F b) (hl : len ≤ cap)
      (hc : ∀ (j : Nat) (a : AV), cells[j]? = some a → w.cell? ⟨b, off + j, none⟩ = some (f j))
      (hr : ∀ (j : Nat) (a : AV), cells[j]? = some a → RT F w a (f j)) : RT F w (.fsl len cells) (.slice (some ⟨b, off, none⟩) len cap)
  | fn (g : Nat) (caps : List AV) (vs : Array Value) (hl : caps.length = vs.size)
      (hr : ∀ (j : Nat) (a : AV) (x : Value), caps[j]? = some a → vs[j]? = some x → RT F w a x) : RT F w (.fn g caps) (.func (.func g) #[] vs)
  | agg (cs : List AV) (vs : Array Value) (hl : cs.length = vs.size)
      (hr : ∀ (j : Nat) (a : AV) (x : Value), cs[j]? = some a → vs[j]? = some x → RT F w a x) : RT F w (.agg cs) (.agg vs)
  | tup (cs : List AV) (vs : Array Value) (hl : cs.length = vs.size)
      (hr : ∀ (j : Nat) (a : AV) (x : Value), cs[j]? = some a → vs[j]? = some x → RT F w a x) : RT F w (.tup cs) (.tuple vs)

structure Ctx where
  H : Heap
  U : Nat → Prop        -- the numbers that have been given out
  blk : Nat → Nat
  siz : Nat → Nat
  F : Nat → Prop
  w : World

inductive RL (Γ : Ctx) : AV → Value → Prop
  | tree {a : AV} {v : Value} (h : RT Γ.F Γ.w a v) : RL Γ a v
  | ptr (c off b : Nat) (hU : Γ.U c) (h : b = Γ.blk c) : RL Γ (.ptr c off) (.pointer (some ⟨b, off, none⟩))
  | osl (c off len esz lb b off' cap : Nat) (hU : Γ.U c) (h1 : cap = 0 ∨ off' = off) (h2 : len ≤ cap) (h3 : lb ≤ cap)
      (h : b = Γ.blk c ∧ off + cap * esz ≤ Γ.siz c) : RL Γ (.osl c off len esz lb) (.slice (some ⟨b, off', none⟩) len cap)
  | fn (g : Nat) (caps : List AV) (vs : Array Value) (hl : caps.length = vs.size)
      (hr : ∀ (j : Nat) (a : AV) (x : Value), caps[j]? = some a → vs[j]? = some x → RL Γ a x) : RL Γ (.fn g caps) (.func (.func g) #[] vs)
  | agg (cs : List AV) (vs : Array Value) (hl : cs.length = vs.size)
      (hr : ∀ (j : Nat) (a : AV) (x : Value), cs[j]? = some a → vs[j]? = some x → RL Γ a x) : RL Γ (.agg cs) (.agg vs)
  | tup (cs : List AV) (vs : Array Value) (hl : cs.length = vs.size)
      (hr : ∀ (j : Nat) (a : AV) (x : Value), cs[j]? = some a → vs[j]? = some x → RL Γ a x) : RL Γ (.tup cs) (.tuple vs)

/-- Two lists, one by one. -/
def All2 (R : AV → Value → Prop) (xs : List AV) (vs : List Value) : Prop :=
  xs.length = vs.length ∧ ∀ (j : Nat) (a : AV) (x : Value), xs[j]? = some a → vs[j]? = some x → R a x

structure HRel (Γ : Ctx) : Prop where
  ok : ∀ c ch, hget Γ.H c = some ch → Γ.U c ∧ ∃ arr, Γ.w.heap[Γ.blk c]? = some (.cells arr ch.ty (0, 0)) ∧ arr.size = Γ.siz c ∧ ch.cells.length ≤ arr.size ∧
    ∀ (j : Nat) (a : AV) (x : Value), ch.cells[j]? = some a → arr[j]? = some x → RL Γ a x
  inj : ∀ c c' ch ch', hget Γ.H c = some ch → hget Γ.H c' = some ch' → Γ.blk c = Γ.blk c' → c = c'
  sep : ∀ c ch, hget Γ.H c = some ch → ¬ Γ.F (Γ.blk c)
  bnd : ∀ b, Γ.F b → b < Γ.w.heap.size

/-- A block that is none of the chunks'. -/
def Ctx.free (Γ : Ctx) (b : Nat) : Prop := ∀ c ch, hget Γ.H c = some ch → Γ.blk c ≠ b

structure Ev (Γ Γ' : Ctx) : Prop where
  U : ∀ c, Γ.U c → Γ'.U c
  keep : ∀ c ch', Γ.U c → hget Γ'.H c = some ch' → ∃ ch, hget Γ.H c = some ch ∧ Γ'.blk c = Γ.blk c ∧ Γ'.siz c = Γ.siz c
  F : ∀ b, Γ.F b → Γ'.F b
  Fnew : ∀ b, Γ'.F b → Γ.F b ∨ Γ.w.heap.size ≤ b
  size : Γ.w.heap.size ≤ Γ'.w.heap.size
  frame : ∀ b, b < Γ.w.heap.size → Γ.free b → Γ'.w.heap[b]? = Γ.w.heap[b]? ∧ Γ'.free b
  os : Γ'.w.os = Γ.w.os
  tape : Γ'.w.tape = Γ.w.tape
  output : Γ'.w.output = Γ.w.output
  same : ∀ c, Γ.U c → Γ'.blk c = Γ.blk c ∧ Γ'.siz c = Γ.siz c

theorem Ev.refl (Γ : Ctx) : Ev Γ Γ :=
  ⟨fun _ h => h, fun _ ch _ h => ⟨ch, h, rfl, rfl⟩, fun _ h => h, fun _ h => .inl h, Nat.le_refl _, fun _ _ h => ⟨rfl, h⟩, rfl, rfl, rfl, fun _ _ => ⟨rfl, rfl⟩⟩

theorem Ev.trans {Γ Γ' Γ'' : Ctx} (h : Ev Γ Γ') (k : Ev Γ' Γ'') : Ev Γ Γ'' where
  U c hc := k.U c (h.U c hc)
  keep c ch' hc h' := by
    obtain ⟨ch1, h1, e1, e2⟩ := k.keep c ch' (h.U c hc) h'
    obtain ⟨ch2, h2, e3, e4⟩ := h.keep c ch1 hc h1
    exact ⟨ch2, h2, e1.trans e3, e2.trans e4⟩
  F b hb := k.F b (h.F b hb)
  Fnew b hb := by
    rcases k.Fnew b hb with hb | hb
    · exact h.Fnew b hb
    · exact .inr (Nat.le_trans h.size hb)
  size := Nat.le_trans h.size k.size
  frame b hb hf := by
    obtain ⟨e1, f1⟩ := h.frame b hb hf
    obtain ⟨e2, f2⟩ := k.frame b (Nat.lt_of_lt_of_le hb h.size) f1
    exact ⟨e2.trans e1, f2⟩
  os := k.os.trans h.os
  tape := k.tape.trans h.tape
  output := k.output.trans h.output
  same c hc := ⟨(k.same c (h.U c hc)).1.trans (h.same c hc).1, (k.same c (h.U c hc)).2.trans (h.same c hc).2⟩

theorem cell_eq {w w' : World} {b : Nat} (h : w'.heap[b]? = w.heap[b]?) (off : Nat) : w'.cell? ⟨b, off, none⟩ = w.cell? ⟨b, off, none⟩ := by
  simp only [World.cell?, h]

theorem RT.mono {F F' : Nat → Prop} {w w' : World} (hF : ∀ b, F b → F' b) (hw : ∀ b, F b → w'.heap[b]? = w.heap[b]?) {a : AV} {v : Value} (h : RT F w a v) : RT F' w' a v := by
  induction h with
  | v x => exact .v x
  | eptr b off cells f hFb hc hr ih => exact .eptr b off cells f (hF b hFb) (fun j a ha => (cell_eq (hw b hFb) _).trans (hc j a ha)) ih
  | fnil a cap => exact .fnil a cap
  | fsl b off len cap cells f hFb hl hc hr ih => exact .fsl b off len cap cells f (hF b hFb) hl (fun j a ha => (cell_eq (hw b hFb) _).trans (hc j a ha)) ih
  | fn g caps vs hl hr ih => exact .fn g caps vs hl ih
  | agg cs vs hl hr ih => exact .agg cs vs hl ih
  | tup cs vs hl hr ih => exact .tup cs vs hl ih

theorem HRel.same {Γ Γ' : Ctx} (hR : HRel Γ) (h : Ev Γ Γ') {b : Nat} (hb : Γ.F b) : Γ'.w.heap[b]? = Γ.w.heap[b]? :=
  (h.frame b (hR.bnd b hb) (fun c ch hc he => hR.sep c ch hc (he ▸ hb))).1

theorem RL.ev {Γ Γ' : Ctx} (hR : HRel Γ) (h : Ev Γ Γ') {a : AV} {v : Value} (hr : RL Γ a v) : RL Γ' a v := by
  induction hr with
  | tree ht => exact .tree (ht.mono h.F (fun b hb => hR.same h hb))
  | ptr c off b hU hv =>
    exact .ptr c off b (h.U c hU) (hv.trans (h.same c hU).1.symm)
  | osl c off len esz lb b off' cap hU h1 h2 h3 hv =>
    refine .osl c off len esz lb b off' cap (h.U c hU) h1 h2 h3 ?_
    rw [(h.same c hU).1, (h.same c hU).2]
    exact hv
  | fn g caps vs hl _ ih => exact .fn g caps vs hl ih
  | agg cs vs hl _ ih => exact .agg cs vs hl ih
  | tup cs vs hl _ ih => exact .tup cs vs hl ih

/-! ### Shapes -/
theorem RL.v_inv {Γ : Ctx} {x v : Value} (h : RL Γ (.v x) v) : v = x := by
  cases h with
  | tree h => cases h; rfl
theorem RL.v (Γ : Ctx) (x : Value) : RL Γ (.v x) x := .tree (.v x)
theorem RL.agg_inv {Γ : Ctx} {cs : List AV} {v : Value} (h : RL Γ (.agg cs) v) : ∃ vs : Array Value, v = .agg vs ∧ cs.length = vs.size ∧ ∀ (j : Nat) (a : AV) (x : Value), cs[j]? = some a → vs[j]? = some x → RL Γ a x := by
  cases h with
  | tree h => cases h with
    | agg _ vs hl hr => exact ⟨vs, rfl, hl, fun j a x h1 h2 => .tree (hr j a x h1 h2)⟩
  | agg _ vs hl hr => exact ⟨vs, rfl, hl, hr⟩
theorem RL.tup_inv {Γ : Ctx} {cs : List AV} {v : Value} (h : RL Γ (.tup cs) v) : ∃ vs : Array Value, v = .tuple vs ∧ cs.length = vs.size ∧ ∀ (j : Nat) (a : AV) (x : Value), cs[j]? = some a → vs[j]? = some x → RL Γ a x := by
  cases h with
  | tree h => cases h with
    | tup _ vs hl hr => exact ⟨vs, rfl, hl, fun j a x h1 h2 => .tree (hr j a x h1 h2)⟩
  | tup _ vs hl hr => exact ⟨vs, rfl, hl, hr⟩
theorem RL.fn_inv {Γ : Ctx} {g : Nat} {cs : List AV} {v : Value} (h : RL Γ (.fn g cs) v) : ∃ vs : Array Value, v = .func (.func g) #[] vs ∧ cs.length = vs.size ∧ ∀ (j : Nat) (a : AV) (x : Value), cs[j]? = some a → vs[j]? = some x → RL Γ a x := by
  cases h with
  | tree h => cases h with
    | fn _ _ vs hl hr => exact ⟨vs, rfl, hl, fun j a x h1 h2 => .tree (hr j a x h1 h2)⟩
  | fn _ _ vs hl hr => exact ⟨vs, rfl, hl, hr⟩
theorem RL.ptr_inv {Γ : Ctx} {c off : Nat} {v : Value} (h : RL Γ (.ptr c off) v) : ∃ b, v = .pointer (some ⟨b, off, none⟩) ∧ Γ.U c ∧ ∀ ch, hget Γ.H c = some ch → b = Γ.blk c := by
  cases h with
  | tree h => cases h
  | ptr _ _ b hU h => exact ⟨b, rfl, hU, fun _ _ => h⟩
theorem RL.ptr_inv' {Γ : Ctx} {c off : Nat} {v : Value} (h : RL Γ (.ptr c off) v) : ∃ b, v = .pointer (some ⟨b, off, none⟩) ∧ Γ.U c ∧ b = Γ.blk c := by
  cases h with
  | tree h => cases h
  | ptr _ _ b hU h => exact ⟨b, rfl, hU, h⟩
theorem RL.osl_inv {Γ : Ctx} {c off len esz lb : Nat} {v : Value} (h : RL Γ (.osl c off len esz lb) v) : ∃ b off' cap, v = .slice (some ⟨b, off', none⟩) len cap ∧ Γ.U c ∧ (cap = 0 ∨ off' = off) ∧ len ≤ cap ∧ lb ≤ cap ∧
    ∀ ch, hget Γ.H c = some ch → b = Γ.blk c ∧ off + cap * esz ≤ Γ.siz c := by
  cases h with
  | tree h => cases h
  | osl _ _ _ _ _ b off' cap hU h1 h2 h3 h => exact ⟨b, off', cap, rfl, hU, h1, h2, h3, fun _ _ => h⟩
theorem RL.osl_inv' {Γ : Ctx} {c off len esz lb : Nat} {v : Value} (h : RL Γ (.osl c off len esz lb) v) : ∃ b off' cap, v = .slice (some ⟨b, off', none⟩) len cap ∧ Γ.U c ∧ (cap = 0 ∨ off' = off) ∧ len ≤ cap ∧ lb ≤ cap ∧
    b = Γ.blk c ∧ off + cap * esz ≤ Γ.siz c := by
  cases h with
  | tree h => cases h
  | osl _ _ _ _ _ b off' cap hU h1 h2 h3 h => exact ⟨b, off', cap, rfl, hU, h1, h2, h3, h⟩
theorem RL.eptr_inv {Γ : Ctx} {cells : List AV} {v : Value} (h : RL Γ (.eptr cells) v) : RT Γ.F Γ.w (.eptr cells) v := by
  cases h with
  | tree h => exact h
theorem RL.fsl_inv {Γ : Ctx} {n : Nat} {cells : List AV} {v : Value} (h : RL Γ (.fsl n cells) v) : RT Γ.F Γ.w (.fsl n cells) v := by
  cases h with
  | tree h => exact h

/-! ### Lists -/
theorem All2.nil (R : AV → Value → Prop) : All2 R [] [] := ⟨rfl, fun j a x h => by simp at h⟩
theorem All2.cons {R : AV → Value → Prop} {a : AV} {x : Value} {as : List AV} {xs : List Value} (h : R a x) (t : All2 R as xs) : All2 R (a :: as) (x :: xs) := by
  refine ⟨by simp [t.1], fun j b y hb hy => ?_⟩
  cases j with
  | zero => simp at hb hy; subst hb; subst hy; exact h
  | succ j => simp at hb hy; exact t.2 j b y hb hy
theorem All2.uncons {R : AV → Value → Prop} {a : AV} {as : List AV} {xs : List Value} (t : All2 R (a :: as) xs) : ∃ y ys, xs = y :: ys ∧ R a y ∧ All2 R as ys := by
  cases xs with
  | nil => have := t.1; simp at this
  | cons y ys => exact ⟨y, ys, rfl, t.2 0 a y rfl rfl, by have := t.1; simp at this; exact this, fun j b z hb hz => t.2 (j + 1) b z (by simpa using hb) (by simpa using hz)⟩
theorem All2.imp {R R' : AV → Value → Prop} {as : List AV} {xs : List Value} (t : All2 R as xs) (h : ∀ a x, R a x → R' a x) : All2 R' as xs := ⟨t.1, fun j a x h1 h2 => h a x (t.2 j a x h1 h2)⟩
theorem All2.get {R : AV → Value → Prop} {as : List AV} {xs : List Value} (t : All2 R as xs) {j : Nat} {a : AV} (h : as[j]? = some a) : ∃ x, xs[j]? = some x ∧ R a x := by
  have hj : j < as.length := (List.getElem?_eq_some_iff.1 h).1
  have hj' : j < xs.length := t.1 ▸ hj
  exact ⟨xs[j], by simp [hj'], t.2 j a _ h (by simp [hj'])⟩
theorem All2.append {R : AV → Value → Prop} {as bs : List AV} {xs ys : List Value} (t : All2 R as xs) (u : All2 R bs ys) : All2 R (as ++ bs) (xs ++ ys) := by
  refine ⟨by simp [t.1, u.1], fun j a x h1 h2 => ?_⟩
  by_cases hj : j < as.length
  · rw [List.getElem?_append_left hj] at h1
    rw [List.getElem?_append_left (t.1 ▸ hj)] at h2
    exact t.2 j a x h1 h2
  · rw [List.getElem?_append_right (by omega)] at h1
    rw [List.getElem?_append_right (by have := t.1; omega)] at h2
    exact u.2 _ a x h1 (by rw [t.1]; exact h2)
theorem All2.take {R : AV → Value → Prop} {as : List AV} {xs : List Value} (t : All2 R as xs) (n : Nat) : All2 R (as.take n) (xs.take n) := by
  refine ⟨by simp [t.1], fun j a x h1 h2 => ?_⟩
  rw [List.getElem?_take] at h1 h2
  split at h1 <;> simp_all
  exact t.2 j a x h1 h2
theorem All2.drop {R : AV → Value → Prop} {as : List AV} {xs : List Value} (t : All2 R as xs) (n : Nat) : All2 R (as.drop n) (xs.drop n) := by
  refine ⟨by simp [t.1], fun j a x h1 h2 => ?_⟩
  rw [List.getElem?_drop] at h1 h2
  exact t.2 _ a x h1 h2
theorem All2.of_arr {R : AV → Value → Prop} {as : List AV} {vs : Array Value} (hl : as.length = vs.size) (h : ∀ (j : Nat) (a : AV) (x : Value), as[j]? = some a → vs[j]? = some x → R a x) : All2 R as vs.toList :=
  ⟨by simp [hl], fun j a x h1 h2 => h j a x h1 (by simpa using h2)⟩
theorem All2.replicate {R : AV → Value → Prop} {a : AV} {x : Value} (h : R a x) (n : Nat) : All2 R (List.replicate n a) (List.replicate n x) := by
  refine ⟨by simp, fun j b y h1 h2 => ?_⟩
  simp only [List.getElem?_replicate] at h1 h2
  split at h1 <;> simp_all
theorem All2.mapO {α : Type} {R : AV → Value → Prop} {f : α → Option AV} {l : List α} {as : List AV} (h : Am.mapO f l = some as) {g : α → Value} (hg : ∀ x ∈ l, ∀ a, f x = some a → R a (g x)) : All2 R as (l.map g) := by
  induction l generalizing as with
  | nil => simp [Am.mapO] at h; subst h; exact .nil R
  | cons x xs ih =>
    simp only [Am.mapO] at h
    split at h
    · simp at h
    · rename_i y hy
      split at h
      · simp at h
      · rename_i ys hys
        simp at h; subst h
        exact .cons (hg x (by simp) y hy) (ih hys (fun z hz => hg z (by simp [hz])))

end Go.Am

/- Memory: how the machine's loads, stores and new rows go, and what becomes of the relation. -/
namespace Go.Am
set_option autoImplicit false
set_option linter.unusedSimpArgs false
set_option linter.unusedVariables false

theorem nbeq_false {k c : Nat} (h : k ≠ c) : Nat.beq k c = false := by
  cases h2 : Nat.beq k c
  · rfl
  · exact absurd (Nat.eq_of_beq_eq_true h2) h
theorem hget_cons (k : Nat) (ch : Ch) (H : Heap) (c : Nat) : hget ((k, ch) :: H) c = if k = c then some ch else hget H c := by
  simp only [hget]
  by_cases h : k = c
  · subst h; simp
  · have : Nat.beq k c = false := nbeq_false h
    simp [this, h]
theorem hget_hset (H : Heap) (c : Nat) (x : Ch) (c' : Nat) : hget (hset H c x) c' = if c' = c then (hget H c).map (fun _ => x) else hget H c' := by
  induction H with
  | nil => simp [hset, hget]
  | cons p r ih =>
    obtain ⟨k, ch⟩ := p
    simp only [hset]
    by_cases hk : k = c
    · subst hk
      simp only [Nat.beq_refl, cond_true, hget_cons]
      by_cases hc : c' = k
      · subst hc; simp
      · simp [hc, Ne.symm hc]
    · have hb : Nat.beq k c = false := nbeq_false hk
      simp only [hb, cond_false, hget_cons, ih]
      by_cases hc : c' = c
      · subst hc; simp [hk]
      · simp [hc]
theorem hget_hdel (H : Heap) (c c' : Nat) : hget (hdel H c) c' = if c' = c then none else hget H c' := by
  induction H with
  | nil => simp [hdel, hget]
  | cons p r ih =>
    obtain ⟨k, ch⟩ := p
    simp only [hdel]
    by_cases hk : k = c
    · subst hk
      simp only [Nat.beq_refl, cond_true, ih, hget_cons]
      by_cases hc : c' = k
      · simp [hc]
      · simp [hc, Ne.symm hc]
    · have hb : Nat.beq k c = false := nbeq_false hk
      simp only [hb, cond_false, hget_cons, ih]
      by_cases hc : c' = c
      · subst hc; simp [hk]
      · simp [hc]
theorem hget_append (H G : Heap) (c : Nat) : hget (H ++ G) c = match hget H c with | some x => some x | none => hget G c := by
  induction H with
  | nil => simp [hget]
  | cons p r ih =>
    obtain ⟨k, ch⟩ := p
    simp only [List.cons_append, hget_cons, ih]
    split <;> simp
theorem hget_hpart (b : Bool) (ids : List Nat) (H : Heap) (c : Nat) : hget (hpart b ids H) c = if memN c ids = b then hget H c else none := by
  induction H with
  | nil => simp [hpart, hget]
  | cons p r ih =>
    obtain ⟨k, ch⟩ := p
    simp only [hpart]
    by_cases hk : memN k ids = b
    · have : (memN k ids == b) = true := by simpa using hk
      simp only [this, cond_true, hget_cons, ih]
      by_cases hc : k = c
      · subst hc; simp [hk]
      · simp [hc]
    · have : (memN k ids == b) = false := by simpa using hk
      simp only [this, cond_false, hget_cons, ih]
      by_cases hc : k = c
      · subst hc; simp [hk]
      · simp [hc]

/-! ### Single values -/
theorem RL.one {Γ : Ctx} {a : AV} {v : Value} (h : RL Γ a v) (ho : oneA a = true) : v.oneCell' = true := by
  cases h with
  | tree h =>
    cases h with
    | v => cases v <;> first | rfl | simp [oneA] at ho
    | agg => simp [oneA] at ho
    | tup => simp [oneA] at ho
    | _ => rfl
  | ptr => rfl
  | osl => rfl
  | fn => rfl
  | agg => simp [oneA] at ho
  | tup => simp [oneA] at ho
theorem oneAll_spec {xs : List AV} (h : oneAll xs = true) : ∀ a ∈ xs, oneA a = true := by
  induction xs with
  | nil => intro a ha; simp at ha
  | cons x r ih =>
    simp only [oneAll, Bool.and_eq_true] at h
    intro a ha
    rcases List.mem_cons.1 ha with rfl | ha
    · exact h.1
    · exact ih h.2 a ha
theorem All2.one {Γ : Ctx} {xs : List AV} {vs : List Value} (h : All2 (RL Γ) xs vs) (ho : oneAll xs = true) : ∀ v ∈ vs, v.oneCell' = true := by
  intro v hv
  obtain ⟨j, hj, rfl⟩ := List.mem_iff_getElem.1 hv
  have hj' : j < xs.length := h.1 ▸ hj
  exact (h.2 j xs[j] vs[j] (by simp [hj']) (by simp [hj])).one (oneAll_spec ho _ (List.getElem_mem _))

/-! ### The world's rows -/
theorem setRow_get (w : World) (g : Nat) (new cur : Array Value) (t : TypeId) (fr : Nat × Nat) (h : w.heap[g]? = some (.cells cur t fr)) : (w.setRow g new).heap[g]? = some (.cells new t fr) := setRow_heap w g cur new t fr h
theorem setRow_other (w : World) (g : Nat) (new : Array Value) (b : Nat) (h : b ≠ g) : (w.setRow g new).heap[b]? = w.heap[b]? := by
  simp [World.setRow, Array.getElem?_modify, Ne.symm h]
theorem setRow_size (w : World) (g : Nat) (new : Array Value) : (w.setRow g new).heap.size = w.heap.size := by simp [World.setRow]
theorem alloc_heap (w : World) (o : Obj) : (w.alloc o).heap = w.heap.push o := rfl
theorem alloc_new (w : World) (o : Obj) : (w.alloc o).heap[w.heap.size]? = some o := by rw [alloc_heap]; simp
theorem alloc_old (w : World) (o : Obj) (b : Nat) (h : b < w.heap.size) : (w.alloc o).heap[b]? = w.heap[b]? := by
  rw [alloc_heap]; simp [Array.getElem?_push, Nat.ne_of_lt h]
theorem alloc_size (w : World) (o : Obj) : (w.alloc o).heap.size = w.heap.size + 1 := by rw [alloc_heap]; simp
theorem heap_lt {w : World} {b : Nat} {o : Obj} (h : w.heap[b]? = some o) : b < w.heap.size := (Array.getElem?_eq_some_iff.1 h).1

/-! ### What becomes of the relation -/
/-- The same memory, some draws later, or a world of the same memory. -/
theorem ev_world {Γ : Ctx} (hR : HRel Γ) (w' : World) (hh : w'.heap = Γ.w.heap) (ho : w'.os = Γ.w.os) (ht : w'.tape = Γ.w.tape) (hp : w'.output = Γ.w.output) :
    Ev Γ { Γ with w := w' } ∧ HRel { Γ with w := w' } := by
  have hE : Ev Γ { Γ with w := w' } :=
    ⟨fun _ h => h, fun _ ch _ h => ⟨ch, h, rfl, rfl⟩, fun _ h => h, fun _ h => .inl h, by simp [hh], fun b _ hf => ⟨by simp [hh], hf⟩, ho, ht, hp, fun _ _ => ⟨rfl, rfl⟩⟩
  refine ⟨hE, ⟨fun c ch hc => ?_, hR.inj, hR.sep, fun b hb => by simpa [hh] using hR.bnd b hb⟩⟩
  obtain ⟨hU, arr, h1, h2, h3, h4⟩ := hR.ok c ch hc
  exact ⟨hU, arr, by simpa [hh] using h1, h2, h3, fun j a x ha hx => (h4 j a x ha hx).ev hR hE⟩

/-- A new chunk in a new block; some chunks may go. -/
theorem ev_alloc {Γ : Ctx} (hR : HRel Γ) (id : Nat) (hid : ¬ Γ.U id) (H0 : Heap) (hsub : ∀ c ch, hget H0 c = some ch → hget Γ.H c = some ch)
    (ty : Nat) (cells : List AV) (arr : Array Value) (hlen : cells.length ≤ arr.size)
    (hc : ∀ (j : Nat) (a : AV) (x : Value), cells[j]? = some a → arr[j]? = some x → RL Γ a x) :
    let Γ' : Ctx := { H := (id, ⟨ty, cells⟩) :: H0, U := fun c => Γ.U c ∨ c = id, blk := fun c => if c = id then Γ.w.heap.size else Γ.blk c,
                      siz := fun c => if c = id then arr.size else Γ.siz c, F := Γ.F, w := Γ.w.alloc (.cells arr ty (0, 0)) }
    Ev Γ Γ' ∧ HRel Γ' := by
  intro Γ'
  have hne : ∀ c ch, hget H0 c = some ch → c ≠ id := fun c ch h he => hid (he ▸ (hR.ok c ch (hsub c ch h)).1)
  have hget' : ∀ c ch, hget Γ'.H c = some ch → (c = id ∧ ch = ⟨ty, cells⟩) ∨ (c ≠ id ∧ hget H0 c = some ch) := by
    intro c ch h
    simp only [Γ', hget_cons] at h
    split at h
    · rename_i he; exact .inl ⟨he.symm, by simpa using h.symm⟩
    · exact .inr ⟨fun he => hne c ch h he, h⟩
  have hblt : ∀ c ch, hget Γ.H c = some ch → Γ.blk c < Γ.w.heap.size := fun c ch h => by
    obtain ⟨_, arr', h1, _⟩ := hR.ok c ch h; exact heap_lt h1
  have hE : Ev Γ Γ' := by
    refine ⟨fun c h => .inl h, ?_, fun _ h => h, fun _ h => .inl h, by simp [Γ', alloc_size], ?_, rfl, rfl, rfl, fun c hc => by
      have : c ≠ id := fun h => hid (h ▸ hc)
      simp [Γ', this]⟩
    · intro c ch' hU h
      rcases hget' c ch' h with ⟨rfl, _⟩ | ⟨hn, h0⟩
      · exact absurd hU hid
      · exact ⟨ch', hsub c ch' h0, by simp [Γ', hn], by simp [Γ', hn]⟩
    · intro b hb hf
      refine ⟨alloc_old _ _ _ hb, fun c ch h => ?_⟩
      rcases hget' c ch h with ⟨rfl, _⟩ | ⟨hn, h0⟩
      · simp [Γ']; omega
      · simp [Γ', hn]; exact hf c ch (hsub c ch h0)
  refine ⟨hE, ⟨?_, ?_, ?_, ?_⟩⟩
  · intro c ch h
    rcases hget' c ch h with ⟨rfl, rfl⟩ | ⟨hn, h0⟩
    · exact ⟨.inr rfl, arr, by simp only [Γ', if_true]; exact alloc_new _ _, by simp [Γ'], hlen, fun j a x h1 h2 => (hc j a x h1 h2).ev hR hE⟩
    · obtain ⟨hU, arr', h1, h2, h3, h4⟩ := hR.ok c ch (hsub c ch h0)
      exact ⟨.inl hU, arr', by simp [Γ', hn, alloc_old _ _ _ (heap_lt h1), h1], by simp [Γ', hn, h2], h3, fun j a x ha hx => (h4 j a x ha hx).ev hR hE⟩
  · intro c c' ch ch' h h' he
    rcases hget' c ch h with ⟨rfl, _⟩ | ⟨hn, h0⟩ <;> rcases hget' c' ch' h' with ⟨rfl, _⟩ | ⟨hn', h0'⟩
    · rfl
    · simp [Γ', hn'] at he; have := hblt c' ch' (hsub _ _ h0'); omega
    · simp [Γ', hn] at he; have := hblt c ch (hsub _ _ h0); omega
    · simp [Γ', hn, hn'] at he; exact hR.inj c c' ch ch' (hsub _ _ h0) (hsub _ _ h0') he
  · intro c ch h hF
    rcases hget' c ch h with ⟨rfl, _⟩ | ⟨hn, h0⟩
    · simp [Γ'] at hF; have := hR.bnd _ hF; omega
    · simp [Γ', hn] at hF; exact hR.sep c ch (hsub _ _ h0) hF
  · intro b hb
    have := hR.bnd b hb
    simp [Γ', alloc_size]; omega

/-- A chunk's content is another one, in its own block. -/
theorem ev_set {Γ : Ctx} (hR : HRel Γ) (c : Nat) (ch : Ch) (hg : hget Γ.H c = some ch) (cells : List AV) (arr cur : Array Value)
    (hb : Γ.w.heap[Γ.blk c]? = some (.cells cur ch.ty (0, 0))) (hsz : arr.size = cur.size) (hlen : cells.length ≤ arr.size)
    (hc : ∀ (j : Nat) (a : AV) (x : Value), cells[j]? = some a → arr[j]? = some x → RL Γ a x) :
    let Γ' : Ctx := { Γ with H := hset Γ.H c { ch with cells := cells }, w := Γ.w.setRow (Γ.blk c) arr }
    Ev Γ Γ' ∧ HRel Γ' := by
  intro Γ'
  have hget' : ∀ c' ch', hget Γ'.H c' = some ch' → (c' = c ∧ ch' = { ch with cells := cells }) ∨ (c' ≠ c ∧ hget Γ.H c' = some ch') := by
    intro c' ch' h
    simp only [Γ', hget_hset] at h
    split at h
    · rename_i he; simp [hg] at h; exact .inl ⟨he, h.symm⟩
    · rename_i he; exact .inr ⟨he, h⟩
  have hE : Ev Γ Γ' := by
    refine ⟨fun c h => h, ?_, fun _ h => h, fun _ h => .inl h, by simp [Γ', setRow_size], ?_, rfl, rfl, rfl, fun _ _ => ⟨rfl, rfl⟩⟩
    · intro c' ch' hU h
      rcases hget' c' ch' h with ⟨rfl, _⟩ | ⟨_, h0⟩
      · exact ⟨ch, hg, rfl, rfl⟩
      · exact ⟨ch', h0, rfl, rfl⟩
    · intro b _ hf
      refine ⟨setRow_other _ _ _ _ (fun he => hf c ch hg he.symm), fun c' ch' h => ?_⟩
      rcases hget' c' ch' h with ⟨rfl, _⟩ | ⟨_, h0⟩
      · exact hf _ ch hg
      · exact hf c' ch' h0
  have hU := (hR.ok c ch hg).1
  obtain ⟨_, arr0, h1, h2, _, _⟩ := hR.ok c ch hg
  have hcur : arr0 = cur := by rw [hb] at h1; injection h1 with h1; injection h1 with h1; exact h1.symm
  refine ⟨hE, ⟨?_, ?_, ?_, ?_⟩⟩
  · intro c' ch' h
    rcases hget' c' ch' h with ⟨rfl, rfl⟩ | ⟨hn, h0⟩
    · exact ⟨hU, arr, setRow_get _ _ _ _ _ _ hb, by rw [hsz, ← hcur]; exact h2, hlen, fun j a x ha hx => (hc j a x ha hx).ev hR hE⟩
    · obtain ⟨hU', arr', h1', h2', h3', h4'⟩ := hR.ok c' ch' h0
      refine ⟨hU', arr', ?_, h2', h3', fun j a x ha hx => (h4' j a x ha hx).ev hR hE⟩
      exact (setRow_other _ _ _ _ (fun he => hn (hR.inj c' c ch' ch h0 hg he))).trans h1'
  · intro c1 c2 ch1 ch2 g1 g2 he
    rcases hget' c1 ch1 g1 with ⟨rfl, _⟩ | ⟨_, g1'⟩ <;> rcases hget' c2 ch2 g2 with ⟨rfl, _⟩ | ⟨_, g2'⟩
    · rfl
    · exact hR.inj _ _ ch ch2 hg g2' he
    · exact hR.inj _ _ ch1 ch g1' hg he
    · exact hR.inj _ _ ch1 ch2 g1' g2' he
  · intro c' ch' h
    rcases hget' c' ch' h with ⟨rfl, _⟩ | ⟨_, h0⟩
    · exact hR.sep _ ch hg
    · exact hR.sep c' ch' h0
  · intro b hb'
    simpa [Γ', setRow_size] using hR.bnd b hb'

/-- A chunk goes over into a new one, in the same block. -/
theorem ev_move {Γ : Ctx} (hR : HRel Γ) (c id : Nat) (hid : ¬ Γ.U id) (ch : Ch) (hg : hget Γ.H c = some ch) (cells : List AV) (arr cur : Array Value)
    (hb : Γ.w.heap[Γ.blk c]? = some (.cells cur ch.ty (0, 0))) (hsz : arr.size = cur.size) (hlen : cells.length ≤ arr.size)
    (hc : ∀ (j : Nat) (a : AV) (x : Value), cells[j]? = some a → arr[j]? = some x → RL Γ a x) :
    let Γ' : Ctx := { H := (id, ⟨ch.ty, cells⟩) :: hdel Γ.H c, U := fun k => Γ.U k ∨ k = id, blk := fun k => if k = id then Γ.blk c else Γ.blk k,
                      siz := fun k => if k = id then Γ.siz c else Γ.siz k, F := Γ.F, w := Γ.w.setRow (Γ.blk c) arr }
    Ev Γ Γ' ∧ HRel Γ' := by
  intro Γ'
  have hU := (hR.ok c ch hg).1
  have hcid : c ≠ id := fun h => hid (h ▸ hU)
  have hget' : ∀ c' ch', hget Γ'.H c' = some ch' → (c' = id ∧ ch' = ⟨ch.ty, cells⟩) ∨ (c' ≠ id ∧ c' ≠ c ∧ hget Γ.H c' = some ch') := by
    intro c' ch' h
    simp only [Γ', hget_cons, hget_hdel] at h
    split at h
    · rename_i he; exact .inl ⟨he.symm, by simpa using h.symm⟩
    · rename_i he
      split at h
      · simp at h
      · rename_i hn; exact .inr ⟨Ne.symm he, hn, h⟩
  have hE : Ev Γ Γ' := by
    refine ⟨fun c h => .inl h, ?_, fun _ h => h, fun _ h => .inl h, by simp [Γ', setRow_size], ?_, rfl, rfl, rfl, fun c hc => by
      have : c ≠ id := fun h => hid (h ▸ hc)
      simp [Γ', this]⟩
    · intro c' ch' hU' h
      rcases hget' c' ch' h with ⟨rfl, _⟩ | ⟨hn, _, h0⟩
      · exact absurd hU' hid
      · exact ⟨ch', h0, by simp [Γ', hn], by simp [Γ', hn]⟩
    · intro b _ hf
      refine ⟨setRow_other _ _ _ _ (fun he => hf c ch hg he.symm), fun c' ch' h => ?_⟩
      rcases hget' c' ch' h with ⟨rfl, _⟩ | ⟨hn, _, h0⟩
      · simp [Γ']; exact hf c ch hg
      · simp [Γ', hn]; exact hf c' ch' h0
  obtain ⟨_, arr0, h1, h2, _, _⟩ := hR.ok c ch hg
  have hcur : arr0 = cur := by rw [hb] at h1; injection h1 with h1; injection h1 with h1; exact h1.symm
  refine ⟨hE, ⟨?_, ?_, ?_, ?_⟩⟩
  · intro c' ch' h
    rcases hget' c' ch' h with ⟨rfl, rfl⟩ | ⟨hn, hn', h0⟩
    · refine ⟨.inr rfl, arr, ?_, ?_, hlen, fun j a x ha hx => (hc j a x ha hx).ev hR hE⟩
      · simp only [Γ', if_true]; exact setRow_get _ _ _ _ _ _ hb
      · simp only [Γ', if_true]; rw [hsz, ← hcur]; exact h2
    · obtain ⟨hU', arr', h1', h2', h3', h4'⟩ := hR.ok c' ch' h0
      refine ⟨.inl hU', arr', ?_, by simp [Γ', hn, h2'], h3', fun j a x ha hx => (h4' j a x ha hx).ev hR hE⟩
      simp only [Γ', hn, if_false]
      exact (setRow_other _ _ _ _ (fun he => hn' (hR.inj c' c ch' ch h0 hg he))).trans h1'
  · intro c1 c2 ch1 ch2 g1 g2 he
    rcases hget' c1 ch1 g1 with ⟨rfl, _⟩ | ⟨hn1, hc1, g1'⟩ <;> rcases hget' c2 ch2 g2 with ⟨rfl, _⟩ | ⟨hn2, hc2, g2'⟩
    · rfl
    · simp [Γ', hn2] at he; exact absurd (hR.inj _ _ ch ch2 hg g2' he).symm hc2
    · simp [Γ', hn1] at he; exact absurd (hR.inj _ _ ch1 ch g1' hg he) hc1
    · simp [Γ', hn1, hn2] at he; exact hR.inj _ _ ch1 ch2 g1' g2' he
  · intro c' ch' h
    rcases hget' c' ch' h with ⟨rfl, _⟩ | ⟨hn, _, h0⟩
    · simp only [Γ', if_true]; exact hR.sep c ch hg
    · simp only [Γ', hn, if_false]; exact hR.sep c' ch' h0
  · intro b hb'
    simpa [Γ', setRow_size] using hR.bnd b hb'

/-- New blocks that nobody holds may be taken for memory that stays. -/
theorem ev_frozen {Γ : Ctx} (hR : HRel Γ) (w' : World) (F' : Nat → Prop) (hF : ∀ b, F' b → Γ.w.heap.size ≤ b ∧ b < w'.heap.size)
    (hs : Γ.w.heap.size ≤ w'.heap.size) (hk : ∀ b, b < Γ.w.heap.size → w'.heap[b]? = Γ.w.heap[b]?) (ho : w'.os = Γ.w.os) (ht : w'.tape = Γ.w.tape) (hp : w'.output = Γ.w.output) :
    Ev Γ { Γ with w := w', F := fun b => Γ.F b ∨ F' b } ∧ HRel { Γ with w := w', F := fun b => Γ.F b ∨ F' b } := by
  have hE : Ev Γ { Γ with w := w', F := fun b => Γ.F b ∨ F' b } :=
    ⟨fun _ h => h, fun _ ch _ h => ⟨ch, h, rfl, rfl⟩, fun _ h => .inl h, fun b h => h.imp id fun h => (hF b h).1, hs, fun b hb hf => ⟨hk b hb, hf⟩, ho, ht, hp, fun _ _ => ⟨rfl, rfl⟩⟩
  refine ⟨hE, ⟨fun c ch hc => ?_, hR.inj, ?_, ?_⟩⟩
  · obtain ⟨hU, arr, h1, h2, h3, h4⟩ := hR.ok c ch hc
    exact ⟨hU, arr, (hk _ (heap_lt h1)).trans h1, h2, h3, fun j a x ha hx => (h4 j a x ha hx).ev hR hE⟩
  · intro c ch hc hf
    obtain ⟨hU, arr, h1, _⟩ := hR.ok c ch hc
    rcases hf with hf | hf
    · exact hR.sep c ch hc hf
    · have := (hF _ hf).1; have := heap_lt h1; simp at *; omega
  · intro b hb
    rcases hb with hb | hb
    · exact Nat.lt_of_lt_of_le (hR.bnd b hb) hs
    · exact (hF b hb).2

end Go.Am

/- Regions whose order is open: what one operation needs and sets, in the interpreter. -/
namespace Go.Am
set_option autoImplicit false
set_option linter.unusedSimpArgs false
set_option linter.unusedVariables false

def AO.tl : AO → List Nat
  | .t i => [i]
  | .c _ => []
def oL : Option AO → List AO
  | none => []
  | some x => [x]
def pL : List (Nat × Nat × AO) → List AO
  | [] => []
  | p :: r => p.2.2 :: pL r
/-- What an operation reads. -/
def AOp.opds : AOp → List AO
  | .move x => [x]
  | .pick c a b => [c, a, b]
  | .alloc _ _ => []
  | .box _ _ x => [x]
  | .build _ ps => pL ps
  | .buildSlice _ _ _ _ ps => pL ps
  | .load _ _ x => [x]
  | .store _ a x => [a, x]
  | .nilChk x => [x]
  | .bin _ x y => [x, y]
  | .beq _ x y => [x, y]
  | .eqAgg _ _ x y => [x, y]
  | .eqNilS _ x => [x]
  | .eqNilP _ x => [x]
  | .un _ x => [x]
  | .conv _ x => [x]
  | .convS x => [x]
  | .b2s x => [x]
  | .s2b x => [x]
  | .mkfn _ cs => cs
  | .mkslice _ _ _ _ l c => [l, c]
  | .slice _ x lo hi mx => x :: (oL lo ++ (oL hi ++ oL mx))
  | .sliceS x lo hi => x :: (oL lo ++ oL hi)
  | .faddr _ x => [x]
  | .field _ _ _ x => [x]
  | .iaddr _ x i => [x, i]
  | .aaddr _ _ x i => [x, i]
  | .index x i => [x, i]
  | .aindex _ _ _ x i => [x, i]
  | .ext x _ => [x]
  | .call _ as => as
  | .callv f as => f :: as
  | .len x => [x]
  | .lenS x => [x]
  | .append _ _ _ s x => [s, x]
  | .copy _ d s => [d, s]
  | .clear _ _ s => [s]
  | .max xs => xs
  | .min xs => xs
  | .bad => []
def tmpsL : List AO → List Nat
  | [] => []
  | x :: r => x.tl ++ tmpsL r
def AOper.tmps (o : AOper) : List Nat := (match o.guard with
  | none => []
  | some (t, _) => [t]) ++ tmpsL o.op.opds

theorem tmpsL_mem {x : AO} {l : List AO} (h : x ∈ l) : ∀ t ∈ x.tl, t ∈ tmpsL l := by
  induction l with
  | nil => simp at h
  | cons y r ih =>
    intro t ht
    simp only [tmpsL, List.mem_append]
    rcases List.mem_cons.1 h with rfl | h
    · exact .inl ht
    · exact .inr (ih h t ht)

theorem ev_congr {tm tm' : TM} {l : List AO} (h : ∀ t ∈ tmpsL l, tget tm t = tget tm' t) : ∀ x ∈ l, x.ev tm = x.ev tm' := by
  intro x hx
  cases x with
  | t i => exact h i (tmpsL_mem hx i (by simp [AO.tl]))
  | c a => rfl
theorem map_ev_congr {tm tm' : TM} {l : List AO} (h : ∀ x ∈ l, x.ev tm = x.ev tm') : l.map (·.ev tm) = l.map (·.ev tm') := List.map_congr_left h
theorem oL_congr {tm tm' : TM} {o : Option AO} (h : ∀ x ∈ oL o, x.ev tm = x.ev tm') : o.map (·.ev tm) = o.map (·.ev tm') := by
  cases o with
  | none => rfl
  | some x => simp [h x (by simp [oL])]
theorem pL_congr {tm tm' : TM} {l : List (Nat × Nat × AO)} (h : ∀ x ∈ pL l, x.ev tm = x.ev tm') : (l.map fun p => (p.1, p.2.1, (p.2.2.ev tm).cells)) = l.map fun p => (p.1, p.2.1, (p.2.2.ev tm').cells) := by
  induction l with
  | nil => rfl
  | cons p r ih =>
    simp only [List.map_cons]
    rw [h p.2.2 (by simp [pL]), ih (fun x hx => h x (by simp [pL, hx]))]

theorem aop_congr {op : AOp} {tm tm' : TM} (h : ∀ x ∈ op.opds, x.ev tm = x.ev tm') (id : Nat) (H : Heap) : aop op tm id H = aop op tm' id H := by
  cases op with
  | build z ps => simp only [aop]; rw [pL_congr h]
  | buildSlice ty esz len z ps => simp only [aop]; rw [pL_congr h]
  | mkfn g cs => simp only [aop]; rw [map_ev_congr (l := cs) h]
  | slice esz x lo hi mx =>
    simp only [AOp.opds] at h
    simp only [aop]
    rw [h x (by simp), oL_congr (fun y hy => h y (by simp [hy])), oL_congr (o := hi) (fun y hy => h y (by simp [hy])), oL_congr (o := mx) (fun y hy => h y (by simp [hy]))]
  | sliceS x lo hi =>
    simp only [AOp.opds] at h
    simp only [aop]
    rw [h x (by simp), oL_congr (fun y hy => h y (by simp [hy])), oL_congr (o := hi) (fun y hy => h y (by simp [hy]))]
  | call g as => simp only [aop]; rw [map_ev_congr (l := as) h]
  | callv f as =>
    simp only [AOp.opds] at h
    simp only [aop]
    rw [h f (by simp), map_ev_congr (fun x hx => h x (by simp [hx]))]
  | max xs => simp only [aop]; rw [map_ev_congr (l := xs) h]
  | min xs => simp only [aop]; rw [map_ev_congr (l := xs) h]
  | alloc ty z => rfl
  | bad => rfl
  | pick c a b => simp only [AOp.opds] at h; simp only [aop]; rw [h c (by simp), h a (by simp), h b (by simp)]
  | store sz a b => simp only [AOp.opds] at h; simp only [aop]; rw [h a (by simp), h b (by simp)]
  | bin o a b => simp only [AOp.opds] at h; simp only [aop]; rw [h a (by simp), h b (by simp)]
  | beq o a b => simp only [AOp.opds] at h; simp only [aop]; rw [h a (by simp), h b (by simp)]
  | eqAgg o k a b => simp only [AOp.opds] at h; simp only [aop]; rw [h a (by simp), h b (by simp)]
  | mkslice ty e by' z a b => simp only [AOp.opds] at h; simp only [aop]; rw [h a (by simp), h b (by simp)]
  | iaddr e a b => simp only [AOp.opds] at h; simp only [aop]; rw [h a (by simp), h b (by simp)]
  | aaddr e l a b => simp only [AOp.opds] at h; simp only [aop]; rw [h a (by simp), h b (by simp)]
  | index a b => simp only [AOp.opds] at h; simp only [aop]; rw [h a (by simp), h b (by simp)]
  | aindex g e l a b => simp only [AOp.opds] at h; simp only [aop]; rw [h a (by simp), h b (by simp)]
  | append ty e by' a b => simp only [AOp.opds] at h; simp only [aop]; rw [h a (by simp), h b (by simp)]
  | copy e a b => simp only [AOp.opds] at h; simp only [aop]; rw [h a (by simp), h b (by simp)]
  | _ =>
    simp only [AOp.opds, List.mem_singleton, forall_eq] at h
    simp only [aop]
    rw [h]

/-- An operation that makes nothing leaves memory as it was. -/
theorem aop_same {T : Table} {op : AOp} (hm : op.makes T = false) {tm : TM} {id : Nat} {H H' : Heap} {a : AV} (h : aop op tm id H = some (.val a H')) : H' = H := by
  have hout : ∀ {o : Option AV}, out H o = some (.val a H') → H' = H := by
    intro o ho
    cases o with
    | none => simp [out] at ho
    | some x => simp only [out, Option.map_some, Option.some.injEq, Out.val.injEq] at ho; exact ho.2.symm
  cases op with
  | alloc => simp [AOp.makes] at hm
  | box => simp [AOp.makes] at hm
  | buildSlice => simp [AOp.makes] at hm
  | mkslice => simp [AOp.makes] at hm
  | store => simp [AOp.makes] at hm
  | append => simp [AOp.makes] at hm
  | copy => simp [AOp.makes] at hm
  | clear => simp [AOp.makes] at hm
  | callv => simp [AOp.makes] at hm
  | call g as => simp [aop] at h
  | _ =>
    simp only [aop, cond_eq_ite] at h
    first
      | exact hout h
      | (simp only [Option.some.injEq, Out.val.injEq] at h; exact h.2.symm)
      | (repeat' (split at h)) <;> first | exact hout h | (simp only [Option.some.injEq, Out.val.injEq] at h; exact h.2.symm) | (simp at h; done)

/-- The numbers that a call gives out count only where functions run in the caller's memory. -/
theorem callF_nx {T : Table} {ex : Exec} {id g : Nat} {args : List AV} {H H' : Heap} {nx nx' : Nat} {r : AV} (hg : inG T g = false) (h : callF T ex id g args H nx = some (r, H', nx')) :
    nx' = nx ∧ ∀ m, callF T ex id g args H m = some (r, H', m) := by
  unfold callF at h ⊢
  cases hT : T g with
  | none => simp [hT] at h
  | some e =>
    cases e with
    | prim p =>
      simp only [hT] at h ⊢
      cases hp : p id args H with
      | none => simp [hp] at h
      | some x =>
        obtain ⟨r', H2⟩ := x
        simp only [hp, Option.some.injEq, Prod.mk.injEq] at h ⊢
        exact ⟨h.2.2.symm, fun m => ⟨h.1, h.2.1, trivial⟩⟩
    | code f mm =>
      have ho : f.own = true := by simpa [inG, hT] using hg
      simp only [hT, ho, cond_true] at h ⊢
      split at h
      · simp at h
      · rename_i args' ha
        split at h
        · rename_i r' hm
          simp only [Option.some.injEq, Prod.mk.injEq] at h
          obtain ⟨rfl, rfl, rfl⟩ := h
          exact ⟨rfl, fun m => by simp [hm]⟩
        · rename_i hm
          split at h
          · simp at h
          · rename_i r2 H2 n2 hr2
            split at h
            · simp at h
            · rename_i r' hr'
              simp only [Option.some.injEq, Prod.mk.injEq] at h
              obtain ⟨rfl, rfl, rfl⟩ := h
              exact ⟨rfl, fun m => by simp [hm, hr2, hr']⟩
theorem callF_own {T : Table} {ex : Exec} {id g : Nat} {args : List AV} {H H' : Heap} {nx nx' : Nat} {r : AV} (hg : ownG T g = true) (h : callF T ex id g args H nx = some (r, H', nx')) : H' = H := by
  unfold callF at h
  cases hT : T g with
  | none => simp [hT] at h
  | some e =>
    cases e with
    | prim p => simp [ownG, hT] at hg
    | code f mm =>
      have ho : f.own = true := by simpa [ownG, hT] using hg
      simp only [hT, ho, cond_true] at h
      split at h
      · simp at h
      · split at h
        · simp only [Option.some.injEq, Prod.mk.injEq] at h
          exact h.2.1.symm
        · split at h
          · simp at h
          · split at h
            · simp at h
            · simp only [Option.some.injEq, Prod.mk.injEq] at h
              exact h.2.1.symm

theorem hpart_nil (b : Bool) (H : Heap) : hpart b [] H = if b then [] else H := by
  induction H with
  | nil => cases b <;> rfl
  | cons p r ih =>
    obtain ⟨k, ch⟩ := p
    simp only [hpart, memN, ih]
    cases b <;> rfl
theorem hget_hin (t : List Nat) (H : Heap) (c : Nat) : hget (hin t H) c = if memN c t = true then hget H c else none := by
  have : hin t H = hpart true t H := by
    cases t with
    | nil => simp [hin, hpart_nil]
    | cons x r => rfl
  rw [this, hget_hpart]
theorem hget_hout (t : List Nat) (H : Heap) (c : Nat) : hget (hout t H) c = if memN c t = false then hget H c else none := by
  have : hout t H = hpart false t H := by
    cases t with
    | nil => simp [hout, hpart_nil]
    | cons x r => rfl
  rw [this, hget_hpart]

/-! ### States as places -/
inductive Loc where
  | t (n : Nat)
  | c (n : Nat)
  | x
inductive LV where
  | a (x : AV)
  | h (x : Option Ch)
  | n (x : Nat)
abbrev Sg := Loc → LV
abbrev Wr := Loc → Option LV
def Wr.ap (w : Wr) (σ : Sg) : Sg := fun l => (w l).getD (σ l)
def foldW (D : Nat → Bool) : List Wr → Nat → Sg → Sg
  | [], _, σ => σ
  | w :: ws, k, σ => foldW D ws (k + 1) (bif D k then w.ap σ else σ)

theorem foldW_agree {D D' : Nat → Bool} {l : Loc} : ∀ {ws : List Wr} {k : Nat} {σ σ' : Sg}, (∀ j w, ws[j]? = some w → w l ≠ none → D (k + j) = D' (k + j)) → σ l = σ' l → foldW D ws k σ l = foldW D' ws k σ' l
  | [], k, σ, σ', _, h => h
  | w :: ws, k, σ, σ', hD, h => by
    simp only [foldW]
    refine foldW_agree (fun j w' hj hn => ?_) ?_
    · have := hD (j + 1) w' (by simpa using hj) hn
      rwa [show k + 1 + j = k + (j + 1) by omega]
    · cases hw : w l with
      | none => cases D k <;> cases D' k <;> simp [Wr.ap, hw, h]
      | some v =>
        have := hD 0 w rfl (by simp [hw])
        simp only [Nat.add_zero] at this
        rw [← this]
        cases D k <;> simp [Wr.ap, hw, h]
theorem foldW_last {D : Nat → Bool} {l : Loc} {v : LV} : ∀ {ws : List Wr} {k m : Nat} {w : Wr} {σ : Sg}, ws[m]? = some w → w l = some v → D (k + m) = true → (∀ j w', ws[j]? = some w' → m < j → w' l ≠ none → D (k + j) = false) → foldW D ws k σ l = v
  | [], k, m, w, σ, h, _, _, _ => by simp at h
  | w0 :: ws, k, 0, w, σ, h, hv, hD, hl => by
    simp only [List.getElem?_cons_zero, Option.some.injEq] at h
    subst h
    simp only [foldW]
    simp only [Nat.add_zero] at hD
    have : foldW D ws (k + 1) (bif D k then w0.ap σ else σ) l = foldW (fun _ => false) ws (k + 1) (bif D k then w0.ap σ else σ) l := by
      refine foldW_agree (fun j w' hj hn => ?_) rfl
      have := hl (j + 1) w' (by simpa using hj) (by omega) hn
      rwa [show k + 1 + j = k + (j + 1) by omega]
    rw [this]
    have none' : ∀ (ws : List Wr) (k : Nat) (σ : Sg), foldW (fun _ => false) ws k σ = σ := by
      intro ws
      induction ws with
      | nil => intro k σ; rfl
      | cons w r ih => intro k σ; simp [foldW, ih]
    rw [none', hD]
    simp [Wr.ap, hv]
  | w0 :: ws, k, m + 1, w, σ, h, hv, hD, hl => by
    simp only [foldW]
    refine foldW_last (m := m) (w := w) (by simpa using h) hv (by rwa [show k + 1 + m = k + (m + 1) by omega]) (fun j w' hj hm hn => ?_)
    have := hl (j + 1) w' (by simpa using hj) (by omega) hn
    rwa [show k + 1 + j = k + (j + 1) by omega]
theorem foldW_none (ws : List Wr) {D : Nat → Bool} {k : Nat} {σ : Sg} (h : ∀ j, k ≤ j → D j = false) : foldW D ws k σ = σ := by
  induction ws generalizing k with
  | nil => rfl
  | cons w r ih => simp only [foldW, h k (Nat.le_refl k), cond_false]; exact ih (fun j hj => h j (by omega))

/-- One more: where no later one that was taken sets the same. -/
theorem foldW_insert {D : Nat → Bool} {ws : List Wr} {i : Nat} {w : Wr} {σ : Sg} (hi : ws[i]? = some w) (hD : D i = false)
    (h : ∀ l, w l ≠ none → ∀ j w', ws[j]? = some w' → i < j → w' l ≠ none → D j = false) : foldW (fun j => D j || j == i) ws 0 σ = w.ap (foldW D ws 0 σ) := by
  funext l
  cases hw : w l with
  | none =>
    simp only [Wr.ap, hw, Option.getD_none]
    refine foldW_agree (fun j w' hj hn => ?_) rfl
    have : j ≠ i := fun e => by subst e; rw [hi] at hj; injection hj with hj; subst hj; exact hn hw
    simp [this]
  | some v =>
    simp only [Wr.ap, hw, Option.getD_some]
    refine foldW_last hi hw (by simp) (fun j w' hj hm hn => ?_)
    have := h l (by simp [hw]) j w' hj hm hn
    simp [this]; omega

end Go.Am

/- Loads, stores, new variables. -/
namespace Go.Am
set_option autoImplicit false
set_option linter.unusedSimpArgs false
set_option linter.unusedVariables false

/-- An operation of the machine gives what the interpreter's does. -/
def Val (P : Program) (Γ : Ctx) (id : Nat) (s : Sem Value) (H' : Heap) (r : AV) : Prop :=
  ∃ v Γ', s.run P Γ.w = .ok v Γ'.w ∧ Γ'.H = H' ∧ Ev Γ Γ' ∧ HRel Γ' ∧ RL Γ' r v ∧ ∀ c, Γ'.U c → Γ.U c ∨ c = id

theorem Val.same {P : Program} {Γ : Ctx} {id : Nat} {s : Sem Value} {r : AV} {v : Value} (hR : HRel Γ) (h : s.run P Γ.w = .ok v Γ.w) (hr : RL Γ r v) : Val P Γ id s Γ.H r :=
  ⟨v, Γ, h, rfl, Ev.refl Γ, hR, hr, fun _ hc => .inl hc⟩

theorem cells_one {v : Value} (h : v.oneCell' = true) : v.cells = #[v] := by cases v <;> first | rfl | simp [Value.oneCell'] at h
theorem RL.cells {Γ : Ctx} {x : AV} {v : Value} (h : RL Γ x v) : All2 (RL Γ) x.cells v.cells.toList := by
  have single : ∀ (y : AV) (u : Value), RL Γ y u → All2 (RL Γ) [y] [u] := fun y u hy => .cons hy (.nil _)
  cases h with
  | tree ht =>
    have hh := ht
    cases ht with
    | v =>
      cases v <;> first | exact single _ _ (.tree hh) | skip
      rename_i cs
      simp only [AV.cells, Value.cells]
      refine ⟨by simp, fun j a x ha hx => ?_⟩
      simp only [List.getElem?_map, Option.map_eq_some_iff] at ha
      obtain ⟨y, hy, rfl⟩ := ha
      rw [hx] at hy; injection hy with hy; subst hy
      exact .v Γ _
    | agg cs vs hl hr => exact .of_arr hl fun j a x h1 h2 => .tree (hr j a x h1 h2)
    | eptr => exact single _ _ (.tree hh)
    | fnil => exact single _ _ (.tree hh)
    | fsl => exact single _ _ (.tree hh)
    | fn => exact single _ _ (.tree hh)
    | tup => exact single _ _ (.tree hh)
  | ptr c off b hU h => exact single _ _ (.ptr c off b hU h)
  | osl c off len esz lb b off' cap hU h1 h2 h3 h => exact single _ _ (.osl c off len esz lb b off' cap hU h1 h2 h3 h)
  | fn g caps vs hl hr => exact single _ _ (.fn g caps vs hl hr)
  | agg cs vs hl hr => exact .of_arr hl hr
  | tup cs vs hl hr => exact single _ _ (.tup cs vs hl hr)

/-! ### Types -/
def aggD : TypeDesc → Bool
  | .struct _ => true
  | .array _ _ => true
  | _ => false
theorem run_isAgg {P : Program} {t : TypeId} {d : TypeDesc} (h : P.underlying t = some d) (w : World) : (isAgg t).run P w = .ok (aggD d) w := by
  simp only [isAgg, Sem.run_bind, run_underlying h, Result.andThen_ok]
  cases d <;> rfl
theorem run_typeInfo {P : Program} {t : TypeId} {i : TypeInfo} (h : P.info? t = some i) (w : World) : (typeInfo t).run P w = .ok i w := by
  simp [typeInfo, h]
theorem run_sizeOf {P : Program} {t : TypeId} {i : TypeInfo} (h : P.info? t = some i) (w : World) : (sizeOf t).run P w = .ok i.size w := by
  simp [sizeOf, run_typeInfo h]
theorem run_zeroValue {P : Program} {t : TypeId} {i : TypeInfo} {z : Value} (h : P.info? t = some i) (hz : i.zero = some z) (w : World) : (zeroValue t).run P w = .ok z w := by
  simp [zeroValue, run_typeInfo h, hz]

theorem add_none (b off j : Nat) : (⟨b, off, none⟩ : Addr).add j = ⟨b, off + j, none⟩ := by
  unfold Addr.add; split <;> simp_all

/-! ### A load -/
theorem cell_of_arr {w : World} {b : Nat} {arr : Array Value} {ty : TypeId} {fr : Nat × Nat} (h : w.heap[b]? = some (.cells arr ty fr)) (off : Nat) : w.cell? ⟨b, off, none⟩ = arr[off]? := by
  simp [World.cell?, h]

theorem RT.eptr_inv {F : Nat → Prop} {w : World} {cells : List AV} {v : Value} (h : RT F w (.eptr cells) v) : ∃ (b off : Nat) (f : Nat → Value), v = .pointer (some ⟨b, off, none⟩) ∧ F b ∧
    (∀ (j : Nat) (a : AV), cells[j]? = some a → w.cell? ⟨b, off + j, none⟩ = some (f j)) ∧ ∀ (j : Nat) (a : AV), cells[j]? = some a → RT F w a (f j) := by
  cases h with
  | eptr b off _ f hF hc hr => exact ⟨b, off, f, rfl, hF, hc, hr⟩
theorem RT.fsl_inv {F : Nat → Prop} {w : World} {n : Nat} {cells : List AV} {v : Value} (h : RT F w (.fsl n cells) v) : (n = 0 ∧ cells = [] ∧ ∃ a cap, v = .slice (some a) 0 cap) ∨
    ∃ (b off cap : Nat) (f : Nat → Value), v = .slice (some ⟨b, off, none⟩) n cap ∧ F b ∧ n ≤ cap ∧
    (∀ (j : Nat) (a : AV), cells[j]? = some a → w.cell? ⟨b, off + j, none⟩ = some (f j)) ∧ ∀ (j : Nat) (a : AV), cells[j]? = some a → RT F w a (f j) := by
  cases h with
  | fnil a cap => exact .inl ⟨rfl, rfl, a, cap, rfl⟩
  | fsl b off _ cap _ f hF hl hc hr => exact .inr ⟨b, off, cap, f, rfl, hF, hl, hc, hr⟩

/-- n cells of a chunk, loaded. -/
theorem loadCells_arr {P : Program} {w : World} {b off n : Nat} {arr : Array Value} {ty : TypeId} {fr : Nat × Nat} (h : w.heap[b]? = some (.cells arr ty fr)) (hn : off + n ≤ arr.size) :
    (loadCells ⟨b, off, none⟩ n).run P w = .ok ((arr.toList.drop off).take n).toArray w := by
  have hl : ((arr.toList.drop off).take n).length = n := by simp; omega
  have := run_loadCells_list (P := P) w ⟨b, off, none⟩ ((arr.toList.drop off).take n) (fun j v hj => by
    rw [add_none, cell_of_arr h]
    rw [List.getElem?_take] at hj
    split at hj
    · rw [List.getElem?_drop] at hj; simpa using hj
    · simp at hj)
  rwa [hl] at this
theorem loadCells_fun {P : Program} {w : World} {b off n : Nat} {cells : List AV} {f : Nat → Value} (hn : n ≤ cells.length)
    (hc : ∀ (j : Nat) (a : AV), cells[j]? = some a → w.cell? ⟨b, off + j, none⟩ = some (f j)) :
    (loadCells ⟨b, off, none⟩ n).run P w = .ok ((List.range n).map f).toArray w :=
  run_loadCells w ⟨b, off, none⟩ n f (fun j hj => by rw [add_none]; exact hc j cells[j] (by simp [show j < cells.length by omega]))

theorem All2.range {F : Nat → Prop} {w : World} {cells : List AV} {f : Nat → Value} {n : Nat} (hn : n ≤ cells.length) (hr : ∀ (j : Nat) (a : AV), cells[j]? = some a → RT F w a (f j)) :
    All2 (RT F w) (cells.take n) ((List.range n).map f) := by
  refine ⟨by simp; omega, fun j a x ha hx => ?_⟩
  rw [List.getElem?_take] at ha
  split at ha
  · simp only [List.getElem?_map, Option.map_eq_some_iff] at hx
    obtain ⟨k, hk, rfl⟩ := hx
    obtain ⟨hk1, hk2⟩ := List.getElem?_eq_some_iff.1 hk
    simp at hk2; subst hk2
    exact hr _ a ha
  · simp at ha
theorem All2.arr {Γ : Ctx} {cs : List AV} {vs : List Value} (h : All2 (RL Γ) cs vs) : RL Γ (.agg cs) (.agg vs.toArray) :=
  .agg cs vs.toArray (by simp [h.1]) (fun j a x h1 h2 => h.2 j a x h1 (by simpa using h2))

/-- What a chunk's cells are. -/
theorem HRel.arr {Γ : Ctx} (hR : HRel Γ) {c : Nat} {ch : Ch} (h : hget Γ.H c = some ch) : ∃ arr, Γ.w.heap[Γ.blk c]? = some (.cells arr ch.ty (0, 0)) ∧ arr.size = Γ.siz c ∧ ch.cells.length ≤ arr.size ∧ All2 (RL Γ) ch.cells (arr.toList.take ch.cells.length) := by
  obtain ⟨_, arr, h1, h2, h3, h4⟩ := hR.ok c ch h
  refine ⟨arr, h1, h2, h3, by simp [h3], fun j a x ha hx => ?_⟩
  rw [List.getElem?_take] at hx
  split at hx
  · exact h4 j a x ha (by simpa using hx)
  · simp at hx

theorem load_same {P : Program} {Γ : Ctx} (hR : HRel Γ) {t : TypeId} {d : TypeDesc} {i : TypeInfo} (hu : P.underlying t = some d) (hi : P.info? t = some i)
    {a r : AV} {av : Value} (ha : RL Γ a av) (h : loadA Γ.H (aggD d) i.size a = some r) : ∃ v, (Instr.loadAt t av).run P Γ.w = .ok v Γ.w ∧ RL Γ r v := by
  have body : ∀ b off, av = .pointer (some ⟨b, off, none⟩) → (∀ vs : Array Value, (loadCells ⟨b, off, none⟩ i.size).run P Γ.w = .ok vs Γ.w → aggD d = true → RL Γ r (.agg vs) → ∃ v, (Instr.loadAt t av).run P Γ.w = .ok v Γ.w ∧ RL Γ r v) ∧
      (∀ v, aggD d = false → Γ.w.cell? ⟨b, off, none⟩ = some v → RL Γ r v → ∃ v, (Instr.loadAt t av).run P Γ.w = .ok v Γ.w ∧ RL Γ r v) := by
    intro b off e
    subst e
    constructor
    · intro vs hv hd hr
      exact ⟨_, by simp [Instr.loadAt, Instr.sureAddr, loadVar, run_isAgg hu, hd, run_sizeOf hi, hv], hr⟩
    · intro v hd hv hr
      exact ⟨_, by simp [Instr.loadAt, Instr.sureAddr, loadVar, run_isAgg hu, hd, hv], hr⟩
  cases a with
  | ptr c off =>
    simp only [loadA] at h
    cases hg : hget Γ.H c with
    | none => simp [hg] at h
    | some ch =>
      simp only [hg] at h
      obtain ⟨pb, e, _, hpb⟩ := ha.ptr_inv
      have e2 := hpb ch hg
      subst e2
      obtain ⟨b1, b2⟩ := body _ _ e
      obtain ⟨arr, h1, h2, h3, h4⟩ := hR.arr hg
      cases hd : aggD d with
      | true =>
        simp only [hd, cond_true] at h
        cases hb : Nat.ble (off + i.size) ch.cells.length with
        | false => simp [hb] at h
        | true =>
          simp only [hb, cond_true, Option.some.injEq] at h
          have hle : off + i.size ≤ ch.cells.length := Nat.le_of_ble_eq_true hb
          subst h
          refine b1 _ (loadCells_arr h1 (by omega)) hd (All2.arr ?_)
          have := (h4.drop off).take i.size
          rwa [List.drop_take, List.take_take, Nat.min_eq_left (by omega)] at this
      | false =>
        simp only [hd, cond_false] at h
        obtain ⟨v, hv, hr⟩ := h4.get h
        refine b2 v hd ?_ hr
        rw [cell_of_arr h1]
        rw [List.getElem?_take] at hv
        split at hv
        · simpa using hv
        · simp at hv
  | eptr cells =>
    simp only [loadA] at h
    obtain ⟨b, off, f, e, hF, hc, hr⟩ := ha.eptr_inv.eptr_inv
    obtain ⟨b1, b2⟩ := body _ _ e
    cases hd : aggD d with
    | true =>
      simp only [hd, cond_true] at h
      cases hb : Nat.ble i.size cells.length with
      | false => simp [hb] at h
      | true =>
        simp only [hb, cond_true, Option.some.injEq] at h
        have hle : i.size ≤ cells.length := Nat.le_of_ble_eq_true hb
        subst h
        exact b1 _ (loadCells_fun hle hc) hd (All2.arr ((All2.range hle hr).imp fun _ _ h => .tree h))
    | false =>
      simp only [hd, cond_false] at h
      exact b2 (f 0) hd (by simpa using hc 0 r h) (.tree (hr 0 r h))
  | _ => simp [loadA] at h
theorem load_ok {P : Program} {Γ : Ctx} (hR : HRel Γ) (id : Nat) {t : TypeId} {d : TypeDesc} {i : TypeInfo} (hu : P.underlying t = some d) (hi : P.info? t = some i)
    {a r : AV} {av : Value} (ha : RL Γ a av) (h : loadA Γ.H (aggD d) i.size a = some r) : Val P Γ id (Instr.loadAt t av) Γ.H r := by
  obtain ⟨v, h1, h2⟩ := load_same (P := P) hR hu hi ha h
  exact .same hR h1 h2

/-! ### A store -/
theorem splice_length {cs xs : List AV} {off : Nat} (h : off + xs.length ≤ cs.length) : (splice cs off xs).length = cs.length := by
  simp [splice]; omega
theorem All2.splice {R : AV → Value → Prop} {cs xs : List AV} {vs ys : List Value} (h : All2 R cs vs) (k : All2 R xs ys) (off : Nat) :
    All2 R (splice cs off xs) (vs.take off ++ ys ++ vs.drop (off + ys.length)) := by
  unfold Am.splice
  rw [← k.1]
  exact ((h.take off).append k).append (h.drop _)

/-- Cells go into a chunk. -/
theorem setCells_ok {P : Program} {Γ : Ctx} (hR : HRel Γ) {c off : Nat} {ch : Ch} (hg : hget Γ.H c = some ch) {xs : List AV} {ys : List Value} (hx : All2 (RL Γ) xs ys)
    (ho : oneAll xs = true) (hle : off + xs.length ≤ ch.cells.length) :
    ∃ Γ', (storeCells ⟨Γ.blk c, off, none⟩ ys).run P Γ.w = .ok () Γ'.w ∧ Γ'.H = hset Γ.H c { ch with cells := Am.splice ch.cells off xs } ∧ Ev Γ Γ' ∧ HRel Γ' ∧ Γ'.U = Γ.U ∧ Γ'.blk = Γ.blk ∧ Γ'.siz = Γ.siz := by
  obtain ⟨arr, h1, h2, h3, h4⟩ := hR.arr hg
  have hst := run_storeCells_at P (Γ.blk c) off ch.ty ys 0 arr Γ.w h1 (by rw [← hx.1]; omega) (hx.one ho)
  simp only [Nat.add_zero] at hst
  obtain ⟨e1, e2⟩ := ev_set hR c ch hg (Am.splice ch.cells off xs) (arr.toList.take off ++ ys ++ arr.toList.drop (off + ys.length)).toArray arr h1
    (by simp [← hx.1]; omega) (by rw [splice_length hle]; simp [← hx.1]; omega) (fun j a x ha hx' => by
      have hs := All2.splice h4 hx off
      have hj : j < ch.cells.length := by
        have := (List.getElem?_eq_some_iff.1 ha).1; rwa [splice_length hle] at this
      refine hs.2 j a x ha ?_
      rw [← hx', List.getElem?_toArray]
      have hT : arr.toList = arr.toList.take ch.cells.length ++ arr.toList.drop ch.cells.length := (List.take_append_drop _ _).symm
      have hTl : (arr.toList.take ch.cells.length).length = ch.cells.length := by simp; omega
      generalize arr.toList.take ch.cells.length = T at hT hTl ⊢
      generalize arr.toList.drop ch.cells.length = D at hT
      have hl := hx.1
      rw [hT, List.take_append_of_le_length (by omega), List.drop_append_of_le_length (by omega), ← List.append_assoc (T.take off ++ ys)]
      exact (List.getElem?_append_left (by simp; omega)).symm)
  exact ⟨_, hst, rfl, e1, e2, rfl, rfl, rfl⟩

theorem store_ok {P : Program} {Γ : Ctx} (hR : HRel Γ) (id : Nat) {t : TypeId} {i : TypeInfo} (hi : P.info? t = some i) {a x : AV} {av xv : Value} (ha : RL Γ a av) (hx : RL Γ x xv)
    {H' : Heap} (h : storeA Γ.H i.size a x = some H') :
    ∃ Γ', (Instr.storeAt t av xv).run P Γ.w = .ok () Γ'.w ∧ Γ'.H = H' ∧ Ev Γ Γ' ∧ HRel Γ' ∧ ∀ c, Γ'.U c → Γ.U c ∨ c = id := by
  cases a with
  | ptr c off =>
    simp only [storeA] at h
    cases hg : hget Γ.H c with
    | none => simp [hg] at h
    | some ch =>
      simp only [hg] at h
      cases hb : (Nat.beq x.cells.length i.size && Nat.ble (off + i.size) ch.cells.length && oneAll x.cells) with
      | false => simp [hb] at h
      | true =>
        simp only [hb, cond_true, Option.some.injEq] at h
        simp only [Bool.and_eq_true] at hb
        have hl : x.cells.length = i.size := Nat.eq_of_beq_eq_true hb.1.1
        have hle : off + i.size ≤ ch.cells.length := Nat.le_of_ble_eq_true hb.1.2
        obtain ⟨Γ', h1, h2, h3, h4, h5, _, _⟩ := setCells_ok (P := P) hR hg hx.cells hb.2 (off := off) (by omega)
        have hs : xv.cells.size = i.size := by have := hx.cells.1; simp at this; omega
        refine ⟨Γ', ?_, h2.trans h, h3, h4, fun c hc => .inl (h5 ▸ hc)⟩
        obtain ⟨pb, e, _, hpb⟩ := ha.ptr_inv
        have e2 := hpb ch hg
        subst e2; subst e
        simp [Instr.storeAt, Instr.sureAddr, storeVar, run_sizeOf hi, hs, h1]
  | _ => simp [storeA] at h

/-! ### New variables -/
theorem new_ok {P : Program} {Γ : Ctx} (hR : HRel Γ) {id : Nat} (hid : ¬ Γ.U id) (ty : TypeId) {cells : List AV} {vs : Array Value} (h : All2 (RL Γ) cells vs.toList) :
    ∃ Γ', (newRow ty vs).run P Γ.w = .ok ⟨Γ.w.heap.size, 0, none⟩ Γ'.w ∧ Γ'.H = (id, ⟨ty, cells⟩) :: Γ.H ∧ Ev Γ Γ' ∧ HRel Γ' ∧ (∀ c, Γ'.U c → Γ.U c ∨ c = id) ∧ Γ'.U id ∧ Γ'.blk id = Γ.w.heap.size ∧ Γ'.siz id = vs.size := by
  obtain ⟨e1, e2⟩ := ev_alloc hR id hid Γ.H (fun _ _ h => h) ty cells vs (by have := h.1; simp at this; omega) (fun j a x h1 h2 => h.2 j a x h1 (by simpa using h2))
  exact ⟨_, by simp [newRow], rfl, e1, e2, fun c hc => hc, .inr rfl, by simp, by simp⟩

theorem zero_cells (Γ : Ctx) (z : Value) : All2 (RL Γ) (z.cells.toList.map .v) z.cells.toList := by
  refine ⟨by simp, fun j a x ha hx => ?_⟩
  simp only [List.getElem?_map, Option.map_eq_some_iff] at ha
  obtain ⟨y, hy, rfl⟩ := ha
  rw [hx] at hy; injection hy with hy; subst hy
  exact .v Γ _

theorem alloc_ok {P : Program} {Γ : Ctx} (hR : HRel Γ) {id : Nat} (hid : ¬ Γ.U id) {e : TypeId} {i : TypeInfo} {z : Value} (hi : P.info? e = some i) (hz : i.zero = some z) :
    Val P Γ id (Instr.alloc e true (.tuple #[])) ((id, ⟨e, z.cells.toList.map .v⟩) :: Γ.H) (.ptr id 0) := by
  obtain ⟨Γ', h1, h2, h3, h4, h5, h6, h7, h8⟩ := new_ok (P := P) hR hid e (zero_cells Γ z)
  refine ⟨.pointer (some ⟨Γ.w.heap.size, 0, none⟩), Γ', by simp [Instr.alloc, run_zeroValue hi hz, newVar, h1], h2, h3, h4, .ptr _ _ _ h6 h7.symm, h5⟩

theorem box_ok {P : Program} {Γ : Ctx} (hR : HRel Γ) {id : Nat} (hid : ¬ Γ.U id) (e : TypeId) {x : AV} {xv : Value} (hx : RL Γ x xv) :
    Val P Γ id (Instr.box e xv) ((id, ⟨e, x.cells⟩) :: Γ.H) (.ptr id 0) := by
  obtain ⟨Γ', h1, h2, h3, h4, h5, h6, h7, h8⟩ := new_ok (P := P) hR hid e hx.cells
  refine ⟨.pointer (some ⟨Γ.w.heap.size, 0, none⟩), Γ', by simp [Instr.box, newVar, h1], h2, h3, h4, .ptr _ _ _ h6 h7.symm, h5⟩

end Go.Am

/- Arithmetic, comparisons, structs, slices' places. -/
namespace Go.Am
set_option autoImplicit false
set_option linter.unusedSimpArgs false
set_option linter.unusedVariables false

theorem bin_ok {P : Program} {op : BinOp} {t : TypeId} {x y : Operand} {a b r : Value} (h : abin op a b = some r) (w : World) :
    (do eqGuard op t x y a b; binOp op t a b : Sem Value).run P w = .ok r w := by
  cases a with
  | int k n =>
    rw [eqGuard_at_int]
    cases b with
    | int k' m =>
      cases op <;> simp only [abin] at h
      all_goals first
        | (split at h
           · simp at h
           · rename_i hk
             first
             | (split at h
                · simp at h
                · rename_i hz
                  have hk' : k = k' := by simpa using hk
                  subst hk'
                  simp only [Option.some.injEq] at h; subst h
                  simp [binOp, Op.intDiv, hz])
             | (have hk' : k = k' := by simpa using hk
                subst hk'
                simp only [Option.some.injEq] at h; subst h
                simp [binOp, Op.intArith, Op.intBits, Op.intCmp])
             | (simp only [Option.some.injEq] at h; subst h
                simp [binOp, Op.shift, hk, Nat.min_def]))
        | (simp at h; done)
    | _ => simp [abin] at h
  | string s =>
    rw [eqGuard_at_string]
    cases b with
    | string s' =>
      cases op <;> simp only [abin, Option.some.injEq] at h <;> first | (simp at h; done) | skip
      all_goals (subst h; simp [binOp, Op.stringOp, ByteArray.toList_eq])
    | _ => simp [abin] at h
  | _ => simp [abin] at h

theorem beq_ok {P : Program} {t : TypeId} (hu : P.underlying t = some .bool) (a b : Bool) (x y : Operand) (w : World) :
    (do eqGuard .eql t x y (.bool a) (.bool b); binOp .eql t (.bool a) (.bool b) : Sem Value).run P w = .ok (.bool (a == b)) w ∧
    (do eqGuard .neq t x y (.bool a) (.bool b); binOp .neq t (.bool a) (.bool b) : Sem Value).run P w = .ok (.bool (!(a == b))) w := by
  rw [eqGuard_at_bool, eqGuard_at_bool]
  constructor <;> simp [binOp, Op.equal, Op.maxDepth, run_equalIn_bool' (P := P) w 9999 t a b hu]

theorem un_ok {P : Program} {op : UnOp} {a r : Value} (h : aun op a = some r) (w : World) : (Op.unary op a).run P w = .ok r w := by
  cases op <;> cases a <;> simp only [aun, Option.some.injEq] at h <;> first | (simp at h; done) | (subst h; simp [Op.unary, Op.intArith, Op.intBits])

end Go.Am

/- '==' of structs whose cells are numbers, bools, strings. -/
namespace Go.Am
set_option autoImplicit false
set_option linter.unusedSimpArgs false
set_option linter.unusedVariables false

def eqVal : Nat → Value → Value → Option Bool
  | 1, .int k a, .int k' b => if k ≠ k' then none else some (a == b)
  | 0, .bool a, .bool b => some (a == b)
  | 2, .string a, .string b => some (a.data.toList == b.data.toList)
  | _, _, _ => none
def eqVals : List Nat → List Value → List Value → Option Bool
  | [], [], [] => some true
  | k :: ks, x :: xs, y :: ys =>
    match eqVal k x y with
    | none => none
    | some b => match eqVals ks xs ys with
      | none => none
      | some r => some (b && r)
  | _, _, _ => none

theorem eqCell_val {Γ : Ctx} {k : Nat} {x y : AV} {xv yv : Value} {b : Bool} (hx : RL Γ x xv) (hy : RL Γ y yv) (h : eqCell k x y = some b) : eqVal k xv yv = some b := by
  cases x with
  | v u =>
    have := hx.v_inv; subst this
    cases y with
    | v u' =>
      have := hy.v_inv; subst this
      rcases k with _ | _ | _ | k <;> cases xv <;> cases yv <;> first | exact h | (simp [eqCell] at h)
    | _ => rcases k with _ | _ | _ | k <;> cases xv <;> simp [eqCell] at h
  | _ => rcases k with _ | _ | _ | k <;> simp [eqCell] at h
theorem eqCells_vals {Γ : Ctx} {ks : List Nat} {xs ys : List AV} {xv yv : List Value} {b : Bool} (hx : All2 (RL Γ) xs xv) (hy : All2 (RL Γ) ys yv) (h : eqCells ks xs ys = some b) :
    eqVals ks xv yv = some b ∧ xs.length = ks.length ∧ ys.length = ks.length := by
  induction ks generalizing xs ys xv yv b with
  | nil =>
    cases xs with
    | cons => simp [eqCells] at h
    | nil =>
      cases ys with
      | nil =>
        have h1 := hx.1; have h2 := hy.1
        simp at h1 h2
        rw [List.eq_nil_of_length_eq_zero h1.symm, List.eq_nil_of_length_eq_zero h2.symm]
        simpa [eqCells, eqVals] using h
      | cons y ys => simp [eqCells] at h
  | cons k ks ih =>
    cases xs with
    | nil => simp [eqCells] at h
    | cons x xs =>
    cases ys with
    | nil => simp [eqCells] at h
    | cons y ys =>
      obtain ⟨u, us, rfl, hu, hus⟩ := hx.uncons
      obtain ⟨t, ts, rfl, ht, hts⟩ := hy.uncons
      simp only [eqCells] at h
      cases hc : eqCell k x y with
      | none => simp [hc] at h
      | some c =>
        simp only [hc] at h
        cases hr : eqCells ks xs ys with
        | none => simp [hr] at h
        | some r =>
          simp only [hr, Option.some.injEq] at h
          obtain ⟨i1, i2, i3⟩ := ih hus hts hr
          simp [eqVals, eqCell_val hu ht hc, i1, i2, i3, h]

theorem eqVals_append {ks js : List Nat} {a b c d : List Value} {r : Bool} (ha : a.length = ks.length) (hc : c.length = ks.length) (h : eqVals (ks ++ js) (a ++ b) (c ++ d) = some r) :
    ∃ p q, eqVals ks a c = some p ∧ eqVals js b d = some q ∧ r = (p && q) := by
  induction ks generalizing a c r with
  | nil =>
    have e1 := List.eq_nil_of_length_eq_zero ha
    have e2 := List.eq_nil_of_length_eq_zero hc
    subst e1; subst e2
    exact ⟨true, r, rfl, by simpa using h, by simp⟩
  | cons k ks ih =>
    cases a with
    | nil => simp at ha
    | cons x xs =>
    cases c with
    | nil => simp at hc
    | cons y ys =>
      simp only [List.cons_append, eqVals] at h
      cases hc' : eqVal k x y with
      | none => simp [hc'] at h
      | some e =>
        simp only [hc'] at h
        cases hr : eqVals (ks ++ js) (xs ++ b) (ys ++ d) with
        | none => simp [hr] at h
        | some s =>
          simp only [hr, Option.some.injEq] at h
          obtain ⟨p, q, h1, h2, rfl⟩ := ih (by simpa using ha) (by simpa using hc) hr
          exact ⟨e && p, q, by simp [eqVals, hc', h1], h2, by rw [← h, Bool.and_assoc]⟩

def plainFs (f : TypeId → Option (List Nat)) : Nat → List Field → Option (List Nat)
  | _, [] => some []
  | o, x :: xs => if x.offset = o ∧ x.name ≠ "_" then (match f x.type with
    | none => none
    | some k => match plainFs f (o + k.length) xs with
      | none => none
      | some l => some (k ++ l)) else none
def plainN (P : Program) : Nat → TypeId → Option (List Nat)
  | 0, _ => none
  | n + 1, t =>
    match P.underlying t with
    | some .bool => some [0]
    | some (.int _) => some [1]
    | some .string => some [2]
    | some (.struct fs) => if P.stoodInHeld t = false then (match plainFs (plainN P n) 0 fs.toList with
      | none => none
      | some k => if (P.info? t).map (·.size) = some k.length then some k else none) else none
    | _ => none

/-- The cells from o to k. -/
def seg (xs : Array Value) (o k : Nat) : List Value := (xs.toList.drop o).take (k - o)
theorem seg_one (xs : Array Value) (o : Nat) (h : o < xs.size) : seg xs o (o + 1) = [xs[o]] := by
  have h' : o < xs.toList.length := by simpa using h
  simp only [seg, Nat.add_sub_cancel_left]
  rw [List.drop_eq_getElem_cons h']
  simp
theorem seg_split (xs : Array Value) {o m k : Nat} (h1 : o ≤ m) (h2 : m ≤ k) (h3 : k ≤ xs.size) : seg xs o k = seg xs o m ++ seg xs m k ∧ (seg xs o m).length = m - o := by
  constructor
  · unfold seg
    rw [show k - o = (m - o) + (k - m) by omega, List.take_add, List.drop_drop, show o + (m - o) = m by omega]
  · simp [seg]; omega
theorem seg_extract (xs : Array Value) (off n o m : Nat) (h : m ≤ n) (h2 : off + n ≤ xs.size) : seg (xs.extract off (off + n)) o m = seg xs (off + o) (off + m) := by
  unfold seg
  simp only [Array.toList_extract, List.extract, List.drop_take, List.drop_drop, List.take_take]
  congr 1
  omega

def EqAt (P : Program) (d : Nat) (t : TypeId) (ks : List Nat) : Prop :=
  ∀ (xs ys : Array Value) (off : Nat) (r : Bool), off + ks.length ≤ xs.size → off + ks.length ≤ ys.size → eqVals ks (seg xs off (off + ks.length)) (seg ys off (off + ks.length)) = some r →
    ∀ w, (do let a ← part t xs off; let b ← part t ys off; Op.equalIn (d + 1) t a b : Sem Bool).run P w = .ok r w

theorem eq_fields {P : Program} {d : Nat} {f : TypeId → Option (List Nat)} (hf : ∀ t k, f t = some k → EqAt P d t k) (xs ys : Array Value) :
    ∀ (fs : List Field) (o : Nat) (ks : List Nat) (r : Bool), plainFs f o fs = some ks → o + ks.length ≤ xs.size → o + ks.length ≤ ys.size →
      eqVals ks (seg xs o (o + ks.length)) (seg ys o (o + ks.length)) = some r → ∀ w, (Op.eqFields d.succ xs ys fs).run P w = .ok r w
  | [], o, k, r, h, _, _, he, w => by
    simp only [plainFs, Option.some.injEq] at h
    subst h
    simp [seg, eqVals] at he
    simp [Op.eqFields, he]
  | x :: fs, o, k, r, h, hx, hy, he, w => by
    simp only [plainFs] at h
    split at h
    · rename_i hc
      cases hk : f x.type with
      | none => simp [hk] at h
      | some n =>
        simp only [hk] at h
        cases hl : plainFs f (o + n.length) fs with
        | none => simp [hl] at h
        | some l =>
        simp only [hl, Option.some.injEq] at h
        subst h
        simp only [List.length_append] at hx hy he
        obtain ⟨s1, l1⟩ := seg_split xs (o := o) (m := o + n.length) (k := o + (n.length + l.length)) (by omega) (by omega) hx
        obtain ⟨s2, l2⟩ := seg_split ys (o := o) (m := o + n.length) (k := o + (n.length + l.length)) (by omega) (by omega) hy
        rw [s1, s2] at he
        obtain ⟨p, q, h1, h2, rfl⟩ := eqVals_append (by rw [l1]; omega) (by rw [l2]; omega) he
        have hp := hf x.type n hk xs ys o p (by omega) (by omega) h1 w
        have hq := eq_fields hf xs ys fs (o + n.length) l q hl (by omega) (by omega) (by rw [Nat.add_assoc]; exact h2) w
        simp only [Op.eqFields, hc.2, ne_eq, not_false_eq_true, if_true, hc.1]
        simp only [Sem.run_bind] at hp ⊢
        cases h3 : (part x.type xs o).run P w with
        | halt hh ww => simp [h3] at hp
        | ok a w1 =>
          simp only [h3, Result.andThen_ok] at hp ⊢
          cases h4 : (part x.type ys o).run P w1 with
          | halt hh ww => simp [h4] at hp
          | ok b w2 =>
            simp only [h4, Result.andThen_ok] at hp ⊢
            rw [hp]
            simp only [Result.andThen_ok]
            cases p with
            | true => simpa using hq
            | false => simp
    · simp at h

theorem fieldsOf_eq {P : Program} {t : TypeId} {fs : Array Field} (h : P.underlying t = some (.struct fs)) : P.fieldsOf t = fs := by simp [Program.fieldsOf, h]

theorem eq_plain {P : Program} : ∀ (n : Nat) (t : TypeId) (k : List Nat), plainN P n t = some k → ∀ d, n ≤ d → EqAt P d t k := by
  intro n
  induction n with
  | zero => intro t k h; simp [plainN] at h
  | succ n ih =>
    intro t k h d hd xs ys off r hx hy he w
    simp only [plainN] at h
    have scalar : ∀ kk, k = [kk] → aggD (match P.underlying t with | some d => d | none => .bool) = false → (P.underlying t).isSome → (∀ a b, eqVal kk a b = some r → ∀ w, (Op.equalIn (d + 1) t a b).run P w = .ok r w) →
        (do let a ← part t xs off; let b ← part t ys off; Op.equalIn (d + 1) t a b : Sem Bool).run P w = .ok r w := by
      intro kk hk ha hs hv
      subst hk
      obtain ⟨dd, hdd⟩ := Option.isSome_iff_exists.1 hs
      simp only [hdd] at ha
      simp only [List.length_singleton] at hx hy he
      have e1 : seg xs off (off + 1) = [xs[off]] := seg_one xs off (by omega)
      have e2 : seg ys off (off + 1) = [ys[off]] := seg_one ys off (by omega)
      rw [e1, e2] at he
      simp only [eqVals] at he
      cases hc : eqVal kk xs[off] ys[off] with
      | none => simp [hc] at he
      | some c =>
        simp only [hc, Bool.and_true, Option.some.injEq] at he
        subst he
        simp [part, run_isAgg hdd, ha, show off < xs.size by omega, show off < ys.size by omega, hv _ _ hc]
    split at h
    · rename_i hu
      simp only [Option.some.injEq] at h
      refine scalar 0 h.symm (by simp [hu, aggD]) (by simp [hu]) fun a b hab w => ?_
      cases a <;> cases b <;> simp [eqVal] at hab
      simp [Op.equalIn, run_underlying hu, hab]
    · rename_i kk hu
      simp only [Option.some.injEq] at h
      refine scalar 1 h.symm (by simp [hu, aggD]) (by simp [hu]) fun a b hab w => ?_
      cases a <;> cases b <;> simp [eqVal] at hab
      obtain ⟨rfl, hab⟩ := hab
      simp [Op.equalIn, run_underlying hu, hab]
    · rename_i hu
      simp only [Option.some.injEq] at h
      refine scalar 2 h.symm (by simp [hu, aggD]) (by simp [hu]) fun a b hab w => ?_
      cases a <;> cases b <;> simp only [eqVal, Option.some.injEq] at hab <;> first | (simp at hab; done) | skip
      subst hab; simp [Op.equalIn, run_underlying hu, beq_toListBytes, ByteArray.toList_eq]
    · rename_i fs hu
      split at h
      · rename_i hst
        cases hk : plainFs (plainN P n) 0 fs.toList with
        | none => simp [hk] at h
        | some m =>
          simp only [hk] at h
          split at h
          · rename_i hsz
            simp only [Option.some.injEq] at h
            subst h
            obtain ⟨i, hi, him⟩ := Option.map_eq_some_iff.1 hsz
            obtain ⟨d, rfl⟩ : ∃ e, d = e + 1 := ⟨d - 1, by omega⟩
            have hfs := fieldsOf_eq hu
            have hef := eq_fields (P := P) (d := d) (f := plainN P n) (fun t k h => ih t k h d (by omega)) (xs.extract off (off + m.length)) (ys.extract off (off + m.length)) fs.toList 0 m r hk (by simp; omega) (by simp; omega)
              (by rw [Nat.zero_add, seg_extract xs off m.length 0 m.length (by omega) hx, seg_extract ys off m.length 0 m.length (by omega) hy]; exact he) w
            have := run_equalIn_struct (P := P) w (d + 1) t (xs.extract off (off + m.length)) (ys.extract off (off + m.length)) (by rw [hfs]; exact hu) hst
            rw [hfs, hef] at this
            simp [part, run_isAgg hu, aggD, run_sizeOf hi, him, this]
          · simp at h
      · simp at h
    · simp at h

theorem plain_size {P : Program} {n : Nat} {t : TypeId} {fs : Array Field} {ks : List Nat} (hu : P.underlying t = some (.struct fs)) (hp : plainN P (n + 1) t = some ks) : ∃ i, P.info? t = some i ∧ i.size = ks.length := by
  simp only [plainN, hu] at hp
  split at hp
  · split at hp
    · simp at hp
    · split at hp
      · rename_i hs
        simp only [Option.some.injEq] at hp
        subst hp
        obtain ⟨i, hi, h2⟩ := Option.map_eq_some_iff.1 hs
        exact ⟨i, hi, h2⟩
      · simp at hp
  · simp at hp

/-- '==' and '!=' of two plain structs. -/
theorem eqAgg_ok {P : Program} {Γ : Ctx} {t : TypeId} {fs : Array Field} {ks : List Nat} (hu : P.underlying t = some (.struct fs)) (hp : plainN P 100 t = some ks) (hm : P.eqGuardType P.depth t = false)
    {a b : List AV} {xs ys : Array Value} (ha : All2 (RL Γ) a xs.toList) (hb : All2 (RL Γ) b ys.toList) {r : Bool} (h : eqCells ks a b = some r)
    (x y : Operand) (w : World) :
    (do eqGuard .eql t x y (.agg xs) (.agg ys); binOp .eql t (.agg xs) (.agg ys) : Sem Value).run P w = .ok (.bool r) w ∧
    (do eqGuard .neq t x y (.agg xs) (.agg ys); binOp .neq t (.agg xs) (.agg ys) : Sem Value).run P w = .ok (.bool (!r)) w := by
  obtain ⟨hv, hla, hlb⟩ := eqCells_vals ha hb h
  have sx : xs.size = ks.length := by have := ha.1; simp at this; omega
  have sy : ys.size = ks.length := by have := hb.1; simp at this; omega
  have he := eq_plain (P := P) 100 t ks hp 9999 (by omega) xs ys 0 r (by omega) (by omega) (by
    simp only [seg, List.drop_zero, Nat.zero_add, Nat.sub_zero]
    rw [List.take_of_length_le (by simp [sx]), List.take_of_length_le (by simp [sy])]; exact hv) w
  have hi := plain_size (n := 99) hu hp
  obtain ⟨i, hi, his⟩ := hi
  have e1 : xs.extract 0 ks.length = xs := by rw [← sx]; simp
  have e2 : ys.extract 0 ks.length = ys := by rw [← sy]; simp
  have he' : (Op.equalIn 10000 t (.agg xs) (.agg ys)).run P w = .ok r w := by
    simpa [part, run_isAgg hu, aggD, run_sizeOf hi, his, e1, e2] using he
  constructor
  · rw [Sem.run_bind, run_eqGuard_agg (P := P) w .eql t x y xs ys hm, Result.andThen_ok, run_eql_struct, he']; rfl
  · rw [Sem.run_bind, run_eqGuard_agg (P := P) w .neq t x y xs ys hm, Result.andThen_ok, run_neq_struct, he']; rfl

end Go.Am

/- From the loaded program's code to the interpreter's. -/
namespace Go.Am
set_option autoImplicit false

def ofVal : Value → AV
  | .agg cs => .agg (cs.toList.map .v)
  | .tuple vs => .tup (vs.toList.map .v)
  | x => .v x
def compO : Operand → Option AO
  | .tmp t => some (.t t)
  | .const v => some (.c (ofVal v))
  | .func g => some (.c (.fn g []))
  | .global _ => none
def compOs (xs : Array Operand) : Option (List AO) := mapO compO xs.toList
def compOO : Option Operand → Option (Option AO)
  | none => some none
  | some x => (compO x).map some

/-- A type's zero cells, as many as its size says. -/
def zeroL (P : Program) (t : TypeId) : Option (List AV) :=
  match P.info? t with
  | none => none
  | some i => match i.zero with
    | none => none
    | some z => if z.cells.size = i.size then some (z.cells.toList.map .v) else none

def compParts (place : Nat → Option (Nat × Nat)) : List (Nat × Operand) → Option (List (Nat × Nat × AO))
  | [] => some []
  | (i, x) :: r => match place i, compO x, compParts place r with
    | some (off, sz), some a, some l => some ((off, sz, a) :: l)
    | _, _, _ => none

def isNilS : Operand → Bool
  | .const (.slice none 0 0) => true
  | _ => false
def isNilP : Operand → Bool
  | .const (.pointer none) => true
  | _ => false

def compBin (P : Program) (b : BinOp) (t : TypeId) (x y : Operand) : Option AOp :=
  match P.underlying t, compO x, compO y with
  | some d, some ax, some ay =>
    match d with
    | .int _ => some (.bin b ax ay)
    | .string => some (.bin b ax ay)
    | .bool => match b with
      | .eql => some (.beq false ax ay)
      | .neq => some (.beq true ax ay)
      | _ => none
    | .struct _ => match plainN P 100 t with
      | none => none
      | some ks => if P.eqGuardType P.depth t = false then (match b with
        | .eql => some (.eqAgg false ks ax ay)
        | .neq => some (.eqAgg true ks ax ay)
        | _ => none) else none
    | .slice _ => match b with
      | .eql => bif isNilS y then some (.eqNilS false ax) else none
      | .neq => bif isNilS y then some (.eqNilS true ax) else none
      | _ => none
    | .pointer _ => match b with
      | .eql => bif isNilP y then some (.eqNilP false ax) else none
      | .neq => bif isNilP y then some (.eqNilP true ax) else none
      | _ => none
    | _ => none
  | _, _, _ => none

def compConv (P : Program) (s d : TypeId) (x : Operand) : Option AOp :=
  match P.underlying s, P.underlying d, compO x with
  | some (.int _), some (.int k), some a => some (.conv k a)
  | some (.slice e), some .string, some a => match P.underlying e with
    | some (.int .u8) => some (.b2s a)
    | _ => none
  | some .string, some (.slice e), some a => match P.underlying e with
    | some (.int .u8) => some (.s2b a)
    | _ => none
  | some .string, some .string, some a => some (.convS a)
  | _, _, _ => none

def notInt : TypeDesc → Bool
  | .int _ => false
  | _ => true

def compBuiltin (P : Program) (b : Builtin) (args : Array Operand) (ats : Array TypeId) : Option AOp :=
  match b, compOs args, ats.toList with
  | .len, some [x], [t] => match P.underlying t with
    | some .string => some (.lenS x)
    | some (.slice _) => some (.len x)
    | _ => none
  | .append, some [s, x], [t, u] => match P.underlying t, P.underlying u with
    | some (.slice e), some d => match P.info? e, zeroL P e with
      | some i, some _ => bif notInt d then some (.append e i.size i.bytes s x) else none
      | _, _ => none
    | _, _ => none
  | .copy, some [d, s], [t, _] => match P.underlying t with
    | some (.slice e) => (P.info? e).map fun i => .copy i.size d s
    | _ => none
  | .clear, some [s], [t] => match P.underlying t with
    | some (.slice e) => match P.info? e, zeroL P e with
      | some i, some z => some (.clear i.size z s)
      | _, _ => none
    | _ => none
  | .max, some xs, _ => some (.max xs)
  | .min, some xs, _ => some (.min xs)
  | _, _, _ => none

def compOp (P : Program) (op : Op) : Option AOp :=
  match op with
  | .move x => (compO x).map .move
  | .assign x => (compO x).map .move
  | .pick c a b => match compO c, compO a, compO b with
    | some c, some a, some b => some (.pick c a b)
    | _, _, _ => none
  | .alloc e => (zeroL P e).map (.alloc e ·)
  | .box e x => match P.info? e, compO x with
    | some i, some a => some (.box e i.size a)
    | _, _ => none
  | .build t parts => match P.underlying t, P.info? t, zeroL P t with
    | some (.struct fs), some _, some z => match fs.toList.mapM (fun f => (P.info? f.type).map fun i => (f.offset, i.size)) with
      | none => none
      | some places => (compParts (places.toArray[·]?) parts.toList).map (.build z ·)
    | some (.array _ e), some _, some z => match P.info? e with
      | none => none
      | some ie => (compParts (fun i => some (i * ie.size, ie.size)) parts.toList).map (.build z ·)
    | _, _, _ => none
  | .buildSlice t n parts => match P.underlying t with
    | some (.slice e) => match P.info? e, zeroL P e with
      | some i, some z => if n * i.size ≤ 16777216 then (compParts (fun k => some (k * i.size, i.size)) parts.toList).map (.buildSlice e i.size n z ·) else none
      | _, _ => none
    | _ => none
  | .load t x => match P.underlying t, P.info? t, compO x with
    | some d, some i, some a => some (.load (aggD d) i.size a)
    | _, _, _ => none
  | .store t a x => match P.info? t, compO a, compO x with
    | some i, some a, some x => some (.store i.size a x)
    | _, _, _ => none
  | .nilCheck x => (compO x).map .nilChk
  | .binOp b t x y _ => compBin P b t x y
  | .unOp o _ x => (compO x).map (.un o ·)
  | .convert s d x => compConv P s d x
  | .makeFunc (.func g) first caps => bif first.isEmpty then (compOs caps).map (.mkfn g ·) else none
  | .makeSlice t l c => match P.underlying t with
    | some (.slice e) => match P.info? e, zeroL P e, compO l, compO c with
      | some i, some z, some l, some c => some (.mkslice e i.size i.bytes z l c)
      | _, _, _, _ => none
    | _ => none
  | .slice t x lo hi mx => match P.underlying t, compO x, compOO lo, compOO hi, compOO mx with
    | some .string, some x, some lo, some hi, some none => some (.sliceS x lo hi)
    | some (.slice e), some x, some lo, some hi, some mx => (P.info? e).map fun i => .slice i.size x lo hi mx
    | _, _, _, _, _ => none
  | .fieldAddr s x f => match P.underlying s, compO x with
    | some (.struct fs), some a => match fs[f]? with
      | none => none
      | some fd => match P.info? fd.type with
        | none => none
        | some i => if i.size = 0 then none else some (.faddr fd.offset a)
    | _, _ => none
  | .field s x f => match P.underlying s, compO x with
    | some (.struct fs), some a => match fs[f]? with
      | none => none
      | some fd => match P.underlying fd.type, P.info? fd.type with
        | some d, some i => some (.field (aggD d) fd.offset i.size a)
        | _, _ => none
    | _, _ => none
  | .indexAddr t x i => match P.underlying t, compO x, compO i with
    | some (.slice e), some a, some b => (P.info? e).map fun ie => .iaddr ie.size a b
    | some (.array n e), some a, some b => (P.info? e).map fun ie => .aaddr ie.size n a b
    | _, _, _ => none
  | .index t x i => match P.underlying t, compO x, compO i with
    | some .string, some a, some b => some (.index a b)
    | some (.array n e), some a, some b => match P.underlying e, P.info? e with
      | some d, some ie => some (.aindex (aggD d) ie.size n a b)
      | _, _ => none
    | _, _, _ => none
  | .extract x i => (compO x).map (.ext · i)
  | .call c => match c.callee with
    | .builtin b => compBuiltin P b c.args c.argTypes
    | .value f => match f, compO f, compOs c.args with
      | .func g, _, some as => some (.call g as)
      | _, some f, some as => some (.callv f as)
      | _, _, _ => none
    | .invoke _ _ => none
  | _ => none

end Go.Am

import Derived.Test.YtgkokjkoifdbnaaGreatMem
/- Loads, stores, new variables. -/
namespace Go.Am
set_option autoImplicit false
set_option linter.unusedSimpArgs false
set_option linter.unusedVariables false

/-- An operation of the machine gives what the interpreter's does. -/
def Val (P : Program) (Γ : Ctx) (id : Nat) (s : Sem Value) (H' : Heap) (r : AV) : Prop :=
  ∃ v Γ', s.run P Γ.w = .ok v Γ'.w ∧ Γ'.H = H' ∧ Ev Γ Γ' ∧ HRel Γ' ∧ RL Γ' r v ∧ ∀ c, Γ'.U c → Γ.U c ∨ c = id

theorem Val.same {P : Program} {Γ : Ctx} {id : Nat} {s : Sem Value} {r : AV} {v : Value} (hR : HRel Γ) (h : s.run P Γ.w = .ok v Γ.w) (hr : RL Γ r v) : Val P Γ id s Γ.H r :=
  ⟨v, Γ, h, rfl, Ev.refl Γ, hR, hr, fun _ hc => .inl hc⟩

theorem cells_one {v : Value} (h : v.oneCell' = true) : v.cells = #[v] := by cases v <;> first | rfl | simp [Value.oneCell'] at h
theorem RL.cells {Γ : Ctx} {x : AV} {v : Value} (h : RL Γ x v) : All2 (RL Γ) x.cells v.cells.toList := by
  have single : ∀ (y : AV) (u : Value), RL Γ y u → All2 (RL Γ) [y] [u] := fun y u hy => .cons hy (.nil _)
  cases h with
  | tree ht =>
    have hh := ht
    cases ht with
    | v =>
      cases v <;> first | exact single _ _ (.tree hh) | skip
      rename_i cs
      simp only [AV.cells, Value.cells]
      refine ⟨by simp, fun j a x ha hx => ?_⟩
      simp only [List.getElem?_map, Option.map_eq_some_iff] at ha
      obtain ⟨y, hy, rfl⟩ := ha
      rw [hx] at hy; injection hy with hy; subst hy
      exact .v Γ _
    | agg cs vs hl hr => exact .of_arr hl fun j a x h1 h2 => .tree (hr j a x h1 h2)
    | eptr => exact single _ _ (.tree hh)
    | fnil => exact single _ _ (.tree hh)
    | fsl => exact single _ _ (.tree hh)
    | fn => exact single _ _ (.tree hh)
    | tup => exact single _ _ (.tree hh)
  | ptr c off b hU h => exact single _ _ (.ptr c off b hU h)
  | osl c off len esz lb b off' cap hU h1 h2 h3 h => exact single _ _ (.osl c off len esz lb b off' cap hU h1 h2 h3 h)
  | fn g caps vs hl hr => exact single _ _ (.fn g caps vs hl hr)
  | agg cs vs hl hr => exact .of_arr hl hr
  | tup cs vs hl hr => exact single _ _ (.tup cs vs hl hr)

/-! ### Types -/
def aggD : TypeDesc → Bool
  | .struct _ => true
  | .array _ _ => true
  | _ => false
theorem run_isAgg {P : Program} {t : TypeId} {d : TypeDesc} (h : P.underlying t = some d) (w : World) : (isAgg t).run P w = .ok (aggD d) w := by
  simp only [isAgg, Sem.run_bind, run_underlying h, Result.andThen_ok]
  cases d <;> rfl
theorem run_typeInfo {P : Program} {t : TypeId} {i : TypeInfo} (h : P.info? t = some i) (w : World) : (typeInfo t).run P w = .ok i w := by
  simp [typeInfo, h]
theorem run_sizeOf {P : Program} {t : TypeId} {i : TypeInfo} (h : P.info? t = some i) (w : World) : (sizeOf t).run P w = .ok i.size w := by
  simp [sizeOf, run_typeInfo h]
theorem run_zeroValue {P : Program} {t : TypeId} {i : TypeInfo} {z : Value} (h : P.info? t = some i) (hz : i.zero = some z) (w : World) : (zeroValue t).run P w = .ok z w := by
  simp [zeroValue, run_typeInfo h, hz]

theorem add_none (b off j : Nat) : (⟨b, off, none⟩ : Addr).add j = ⟨b, off + j, none⟩ := by
  unfold Addr.add; split <;> simp_all

/-! ### A load -/
theorem cell_of_arr {w : World} {b : Nat} {arr : Array Value} {ty : TypeId} {fr : Nat × Nat} (h : w.heap[b]? = some (.cells arr ty fr)) (off : Nat) : w.cell? ⟨b, off, none⟩ = arr[off]? := by
  simp [World.cell?, h]

theorem RT.eptr_inv {F : Nat → Prop} {w : World} {cells : List AV} {v : Value} (h : RT F w (.eptr cells) v) : ∃ (b off : Nat) (f : Nat → Value), v = .pointer (some ⟨b, off, none⟩) ∧ F b ∧
    (∀ (j : Nat) (a : AV), cells[j]? = some a → w.cell? ⟨b, off + j, none⟩ = some (f j)) ∧ ∀ (j : Nat) (a : AV), cells[j]? = some a → RT F w a (f j) := by
  cases h with
  | eptr b off _ f hF hc hr => exact ⟨b, off, f, rfl, hF, hc, hr⟩
theorem RT.fsl_inv {F : Nat → Prop} {w : World} {n : Nat} {cells : List AV} {v : Value} (h : RT F w (.fsl n cells) v) : (n = 0 ∧ cells = [] ∧ ∃ a cap, v = .slice (some a) 0 cap) ∨
    ∃ (b off cap : Nat) (f : Nat → Value), v = .slice (some ⟨b, off, none⟩) n cap ∧ F b ∧ n ≤ cap ∧
    (∀ (j : Nat) (a : AV), cells[j]? = some a → w.cell? ⟨b, off + j, none⟩ = some (f j)) ∧ ∀ (j : Nat) (a : AV), cells[j]? = some a → RT F w a (f j) := by
  cases h with
  | fnil a cap => exact .inl ⟨rfl, rfl, a, cap, rfl⟩
  | fsl b off _ cap _ f hF hl hc hr => exact .inr ⟨b, off, cap, f, rfl, hF, hl, hc, hr⟩

/-- n cells of a chunk, loaded. -/
theorem loadCells_arr {P : Program} {w : World} {b off n : Nat} {arr : Array Value} {ty : TypeId} {fr : Nat × Nat} (h : w.heap[b]? = some (.cells arr ty fr)) (hn : off + n ≤ arr.size) :
    (loadCells ⟨b, off, none⟩ n).run P w = .ok ((arr.toList.drop off).take n).toArray w := by
  have hl : ((arr.toList.drop off).take n).length = n := by simp; omega
  have := run_loadCells_list (P := P) w ⟨b, off, none⟩ ((arr.toList.drop off).take n) (fun j v hj => by
    rw [add_none, cell_of_arr h]
    rw [List.getElem?_take] at hj
    split at hj
    · rw [List.getElem?_drop] at hj; simpa using hj
    · simp at hj)
  rwa [hl] at this
theorem loadCells_fun {P : Program} {w : World} {b off n : Nat} {cells : List AV} {f : Nat → Value} (hn : n ≤ cells.length)
    (hc : ∀ (j : Nat) (a : AV), cells[j]? = some a → w.cell? ⟨b, off + j, none⟩ = some (f j)) :
    (loadCells ⟨b, off, none⟩ n).run P w = .ok ((List.range n).map f).toArray w :=
  run_loadCells w ⟨b, off, none⟩ n f (fun j hj => by rw [add_none]; exact hc j cells[j] (by simp [show j < cells.length by omega]))

theorem All2.range {F : Nat → Prop} {w : World} {cells : List AV} {f : Nat → Value} {n : Nat} (hn : n ≤ cells.length) (hr : ∀ (j : Nat) (a : AV), cells[j]? = some a → RT F w a (f j)) :
    All2 (RT F w) (cells.take n) ((List.range n).map f) := by
  refine ⟨by simp; omega, fun j a x ha hx => ?_⟩
  rw [List.getElem?_take] at ha
  split at ha
  · simp only [List.getElem?_map, Option.map_eq_some_iff] at hx
    obtain ⟨k, hk, rfl⟩ := hx
    obtain ⟨hk1, hk2⟩ := List.getElem?_eq_some_iff.1 hk
    simp at hk2; subst hk2
    exact hr _ a ha
  · simp at ha
theorem All2.arr {Γ : Ctx} {cs : List AV} {vs : List Value} (h : All2 (RL Γ) cs vs) : RL Γ (.agg cs) (.agg vs.toArray) :=
  .agg cs vs.toArray (by simp [h.1]) (fun j a x h1 h2 => h.2 j a x h1 (by simpa using h2))

/-- What a chunk's cells are. -/
theorem HRel.arr {Γ : Ctx} (hR : HRel Γ) {c : Nat} {ch : Ch} (h : hget Γ.H c = some ch) : ∃ arr, Γ.w.heap[Γ.blk c]? = some (.cells arr ch.ty (0, 0)) ∧ arr.size = Γ.siz c ∧ ch.cells.length ≤ arr.size ∧ All2 (RL Γ) ch.cells (arr.toList.take ch.cells.length) := by
  obtain ⟨_, arr, h1, h2, h3, h4⟩ := hR.ok c ch h
  refine ⟨arr, h1, h2, h3, by simp [h3], fun j a x ha hx => ?_⟩
  rw [List.getElem?_take] at hx
  split at hx
  · exact h4 j a x ha (by simpa using hx)
  · simp at hx

theorem load_same {P : Program} {Γ : Ctx} (hR : HRel Γ) {t : TypeId} {d : TypeDesc} {i : TypeInfo} (hu : P.underlying t = some d) (hi : P.info? t = some i)
    {a r : AV} {av : Value} (ha : RL Γ a av) (h : loadA Γ.H (aggD d) i.size a = some r) : ∃ v, (Instr.loadAt t av).run P Γ.w = .ok v Γ.w ∧ RL Γ r v := by
  have body : ∀ b off, av = .pointer (some ⟨b, off, none⟩) → (∀ vs : Array Value, (loadCells ⟨b, off, none⟩ i.size).run P Γ.w = .ok vs Γ.w → aggD d = true → RL Γ r (.agg vs) → ∃ v, (Instr.loadAt t av).run P Γ.w = .ok v Γ.w ∧ RL Γ r v) ∧
      (∀ v, aggD d = false → Γ.w.cell? ⟨b, off, none⟩ = some v → RL Γ r v → ∃ v, (Instr.loadAt t av).run P Γ.w = .ok v Γ.w ∧ RL Γ r v) := by
    intro b off e
    subst e
    constructor
    · intro vs hv hd hr
      exact ⟨_, by simp [Instr.loadAt, Instr.sureAddr, loadVar, run_isAgg hu, hd, run_sizeOf hi, hv], hr⟩
    · intro v hd hv hr
      exact ⟨_, by simp [Instr.loadAt, Instr.sureAddr, loadVar, run_isAgg hu, hd, hv], hr⟩
  cases a with
  | ptr c off =>
    simp only [loadA] at h
    cases hg : hget Γ.H c with
    | none => simp [hg] at h
    | some ch =>
      simp only [hg] at h
      obtain ⟨pb, e, _, hpb⟩ := ha.ptr_inv
      have e2 := hpb ch hg
      subst e2
      obtain ⟨b1, b2⟩ := body _ _ e
      obtain ⟨arr, h1, h2, h3, h4⟩ := hR.arr hg
      cases hd : aggD d with
      | true =>
        simp only [hd, cond_true] at h
        cases hb : Nat.ble (off + i.size) ch.cells.length with
        | false => simp [hb] at h
        | true =>
          simp only [hb, cond_true, Option.some.injEq] at h
          have hle : off + i.size ≤ ch.cells.length := Nat.le_of_ble_eq_true hb
          subst h
          refine b1 _ (loadCells_arr h1 (by omega)) hd (All2.arr ?_)
          have := (h4.drop off).take i.size
          rwa [List.drop_take, List.take_take, Nat.min_eq_left (by omega)] at this
      | false =>
        simp only [hd, cond_false] at h
        obtain ⟨v, hv, hr⟩ := h4.get h
        refine b2 v hd ?_ hr
        rw [cell_of_arr h1]
        rw [List.getElem?_take] at hv
        split at hv
        · simpa using hv
        · simp at hv
  | eptr cells =>
    simp only [loadA] at h
    obtain ⟨b, off, f, e, hF, hc, hr⟩ := ha.eptr_inv.eptr_inv
    obtain ⟨b1, b2⟩ := body _ _ e
    cases hd : aggD d with
    | true =>
      simp only [hd, cond_true] at h
      cases hb : Nat.ble i.size cells.length with
      | false => simp [hb] at h
      | true =>
        simp only [hb, cond_true, Option.some.injEq] at h
        have hle : i.size ≤ cells.length := Nat.le_of_ble_eq_true hb
        subst h
        exact b1 _ (loadCells_fun hle hc) hd (All2.arr ((All2.range hle hr).imp fun _ _ h => .tree h))
    | false =>
      simp only [hd, cond_false] at h
      exact b2 (f 0) hd (by simpa using hc 0 r h) (.tree (hr 0 r h))
  | _ => simp [loadA] at h
theorem load_ok {P : Program} {Γ : Ctx} (hR : HRel Γ) (id : Nat) {t : TypeId} {d : TypeDesc} {i : TypeInfo} (hu : P.underlying t = some d) (hi : P.info? t = some i)
    {a r : AV} {av : Value} (ha : RL Γ a av) (h : loadA Γ.H (aggD d) i.size a = some r) : Val P Γ id (Instr.loadAt t av) Γ.H r := by
  obtain ⟨v, h1, h2⟩ := load_same (P := P) hR hu hi ha h
  exact .same hR h1 h2

/-! ### A store -/
theorem splice_length {cs xs : List AV} {off : Nat} (h : off + xs.length ≤ cs.length) : (splice cs off xs).length = cs.length := by
  simp [splice]; omega
theorem All2.splice {R : AV → Value → Prop} {cs xs : List AV} {vs ys : List Value} (h : All2 R cs vs) (k : All2 R xs ys) (off : Nat) :
    All2 R (splice cs off xs) (vs.take off ++ ys ++ vs.drop (off + ys.length)) := by
  unfold Am.splice
  rw [← k.1]
  exact ((h.take off).append k).append (h.drop _)

/-- Cells go into a chunk. -/
theorem setCells_ok {P : Program} {Γ : Ctx} (hR : HRel Γ) {c off : Nat} {ch : Ch} (hg : hget Γ.H c = some ch) {xs : List AV} {ys : List Value} (hx : All2 (RL Γ) xs ys)
    (ho : oneAll xs = true) (hle : off + xs.length ≤ ch.cells.length) :
    ∃ Γ', (storeCells ⟨Γ.blk c, off, none⟩ ys).run P Γ.w = .ok () Γ'.w ∧ Γ'.H = hset Γ.H c { ch with cells := Am.splice ch.cells off xs } ∧ Ev Γ Γ' ∧ HRel Γ' ∧ Γ'.U = Γ.U ∧ Γ'.blk = Γ.blk ∧ Γ'.siz = Γ.siz := by
  obtain ⟨arr, h1, h2, h3, h4⟩ := hR.arr hg
  have hst := run_storeCells_at P (Γ.blk c) off ch.ty ys 0 arr Γ.w h1 (by rw [← hx.1]; omega) (hx.one ho)
  simp only [Nat.add_zero] at hst
  obtain ⟨e1, e2⟩ := ev_set hR c ch hg (Am.splice ch.cells off xs) (arr.toList.take off ++ ys ++ arr.toList.drop (off + ys.length)).toArray arr h1
    (by simp [← hx.1]; omega) (by rw [splice_length hle]; simp [← hx.1]; omega) (fun j a x ha hx' => by
      have hs := All2.splice h4 hx off
      have hj : j < ch.cells.length := by
        have := (List.getElem?_eq_some_iff.1 ha).1; rwa [splice_length hle] at this
      refine hs.2 j a x ha ?_
      rw [← hx', List.getElem?_toArray]
      have hT : arr.toList = arr.toList.take ch.cells.length ++ arr.toList.drop ch.cells.length := (List.take_append_drop _ _).symm
      have hTl : (arr.toList.take ch.cells.length).length = ch.cells.length := by simp; omega
      generalize arr.toList.take ch.cells.length = T at hT hTl ⊢
      generalize arr.toList.drop ch.cells.length = D at hT
      have hl := hx.1
      rw [hT, List.take_append_of_le_length (by omega), List.drop_append_of_le_length (by omega), ← List.append_assoc (T.take off ++ ys)]
      exact (List.getElem?_append_left (by simp; omega)).symm)
  exact ⟨_, hst, rfl, e1, e2, rfl, rfl, rfl⟩

theorem store_ok {P : Program} {Γ : Ctx} (hR : HRel Γ) (id : Nat) {t : TypeId} {i : TypeInfo} (hi : P.info? t = some i) {a x : AV} {av xv : Value} (ha : RL Γ a av) (hx : RL Γ x xv)
    {H' : Heap} (h : storeA Γ.H i.size a x = some H') :
    ∃ Γ', (Instr.storeAt t av xv).run P Γ.w = .ok () Γ'.w ∧ Γ'.H = H' ∧ Ev Γ Γ' ∧ HRel Γ' ∧ ∀ c, Γ'.U c → Γ.U c ∨ c = id := by
  cases a with
  | ptr c off =>
    simp only [storeA] at h
    cases hg : hget Γ.H c with
    | none => simp [hg] at h
    | some ch =>
      simp only [hg] at h
      cases hb : (Nat.beq x.cells.length i.size && Nat.ble (off + i.size) ch.cells.length && oneAll x.cells) with
      | false => simp [hb] at h
      | true =>
        simp only [hb, cond_true, Option.some.injEq] at h
        simp only [Bool.and_eq_true] at hb
        have hl : x.cells.length = i.size := Nat.eq_of_beq_eq_true hb.1.1
        have hle : off + i.size ≤ ch.cells.length := Nat.le_of_ble_eq_true hb.1.2
        obtain ⟨Γ', h1, h2, h3, h4, h5, _, _⟩ := setCells_ok (P := P) hR hg hx.cells hb.2 (off := off) (by omega)
        have hs : xv.cells.size = i.size := by have := hx.cells.1; simp at this; omega
        refine ⟨Γ', ?_, h2.trans h, h3, h4, fun c hc => .inl (h5 ▸ hc)⟩
        obtain ⟨pb, e, _, hpb⟩ := ha.ptr_inv
        have e2 := hpb ch hg
        subst e2; subst e
        simp [Instr.storeAt, Instr.sureAddr, storeVar, run_sizeOf hi, hs, h1]
  | _ => simp [storeA] at h

/-! ### New variables -/
theorem new_ok {P : Program} {Γ : Ctx} (hR : HRel Γ) {id : Nat} (hid : ¬ Γ.U id) (ty : TypeId) {cells : List AV} {vs : Array Value} (h : All2 (RL Γ) cells vs.toList) :
    ∃ Γ', (newRow ty vs).run P Γ.w = .ok ⟨Γ.w.heap.size, 0, none⟩ Γ'.w ∧ Γ'.H = (id, ⟨ty, cells⟩) :: Γ.H ∧ Ev Γ Γ' ∧ HRel Γ' ∧ (∀ c, Γ'.U c → Γ.U c ∨ c = id) ∧ Γ'.U id ∧ Γ'.blk id = Γ.w.heap.size ∧ Γ'.siz id = vs.size := by
  obtain ⟨e1, e2⟩ := ev_alloc hR id hid Γ.H (fun _ _ h => h) ty cells vs (by have := h.1; simp at this; omega) (fun j a x h1 h2 => h.2 j a x h1 (by simpa using h2))
  exact ⟨_, by simp [newRow], rfl, e1, e2, fun c hc => hc, .inr rfl, by simp, by simp⟩

theorem zero_cells (Γ : Ctx) (z : Value) : All2 (RL Γ) (z.cells.toList.map .v) z.cells.toList := by
  refine ⟨by simp, fun j a x ha hx => ?_⟩
  simp only [List.getElem?_map, Option.map_eq_some_iff] at ha
  obtain ⟨y, hy, rfl⟩ := ha
  rw [hx] at hy; injection hy with hy; subst hy
  exact .v Γ _

theorem alloc_ok {P : Program} {Γ : Ctx} (hR : HRel Γ) {id : Nat} (hid : ¬ Γ.U id) {e : TypeId} {i : TypeInfo} {z : Value} (hi : P.info? e = some i) (hz : i.zero = some z) :
    Val P Γ id (Instr.alloc e true (.tuple #[])) ((id, ⟨e, z.cells.toList.map .v⟩) :: Γ.H) (.ptr id 0) := by
  obtain ⟨Γ', h1, h2, h3, h4, h5, h6, h7, h8⟩ := new_ok (P := P) hR hid e (zero_cells Γ z)
  refine ⟨.pointer (some ⟨Γ.w.heap.size, 0, none⟩), Γ', by simp [Instr.alloc, run_zeroValue hi hz, newVar, h1], h2, h3, h4, .ptr _ _ _ h6 h7.symm, h5⟩

theorem box_ok {P : Program} {Γ : Ctx} (hR : HRel Γ) {id : Nat} (hid : ¬ Γ.U id) (e : TypeId) {x : AV} {xv : Value} (hx : RL Γ x xv) :
    Val P Γ id (Instr.box e xv) ((id, ⟨e, x.cells⟩) :: Γ.H) (.ptr id 0) := by
  obtain ⟨Γ', h1, h2, h3, h4, h5, h6, h7, h8⟩ := new_ok (P := P) hR hid e hx.cells
  refine ⟨.pointer (some ⟨Γ.w.heap.size, 0, none⟩), Γ', by simp [Instr.box, newVar, h1], h2, h3, h4, .ptr _ _ _ h6 h7.symm, h5⟩

end Go.Am

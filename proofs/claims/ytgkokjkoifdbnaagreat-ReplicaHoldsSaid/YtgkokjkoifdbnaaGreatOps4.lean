import Derived.Test.YtgkokjkoifdbnaaGreatOps3
/- Slices: their elements, append. -/
namespace Go.Am
set_option autoImplicit false
set_option linter.unusedSimpArgs false
set_option linter.unusedVariables false

theorem lenA_ok {P : Program} {Γ : Ctx} {a : AV} {v : Value} {n : Nat} (h : lenA a = some n) (hr : RL Γ a v) (w : World) : (Builtin.lenOf v).run P w = .ok n w := by
  cases a with
  | osl c off len esz lb =>
    obtain ⟨b, off', cap, rfl, _⟩ := hr.osl_inv
    simp [lenA] at h; subst h; rfl
  | fsl len cells =>
    simp [lenA] at h; subst h
    rcases hr.fsl_inv.fsl_inv with ⟨rfl, _, a, cap, rfl⟩ | ⟨b, off, cap, f, rfl, _⟩ <;> rfl
  | v x =>
    have := hr.v_inv; subst this
    cases v <;> simp [lenA] at h <;> subst h <;> rfl
  | _ => simp [lenA] at h

theorem bytes_cells (Γ : Ctx) (l : List UInt8) : All2 (RL Γ) (cellsOfBytes l) (l.map fun b => .int .u8 b.toNat) := by
  induction l with
  | nil => exact .nil _
  | cons b r ih => exact .cons (.v Γ _) ih

theorem elems_len {H : Heap} {a : AV} {esz n : Nat} {cells : List AV} (h : elemsA H esz n a = some cells) : cells.length = n * esz := by
  have cb : ∀ l : List UInt8, (cellsOfBytes l).length = l.length := fun l => by induction l <;> simp_all [cellsOfBytes]
  cases a with
  | osl c off len e lb =>
    simp only [elemsA] at h
    cases hg : hget H c with
    | none => simp [hg] at h
    | some ch =>
      simp only [hg] at h
      cases hc : (Nat.beq e esz && Nat.ble n len && Nat.ble (off + n * esz) ch.cells.length) with
      | false => simp [hc] at h
      | true =>
        simp only [hc, cond_true, Option.some.injEq] at h
        simp only [Bool.and_eq_true] at hc
        have h3 : off + n * esz ≤ ch.cells.length := Nat.le_of_ble_eq_true hc.2
        subst h; simp; omega
  | fsl len fc =>
    simp only [elemsA] at h
    cases hc : (Nat.ble n len && Nat.ble (n * esz) fc.length) with
    | false => simp [hc] at h
    | true =>
      simp only [hc, cond_true, Option.some.injEq] at h
      simp only [Bool.and_eq_true] at hc
      have h3 : n * esz ≤ fc.length := Nat.le_of_ble_eq_true hc.2
      subst h; simp; omega
  | v x =>
    cases x with
    | slice p m c =>
      cases p with
      | some p => simp [elemsA] at h
      | none =>
        simp only [elemsA] at h
        cases hn : Nat.beq n 0 with
        | false => simp [hn] at h
        | true => simp [hn] at h; subst h; have := Nat.eq_of_beq_eq_true hn; subst this; simp
    | string s =>
      simp only [elemsA] at h
      cases hc : (Nat.beq esz 1 && Nat.ble n s.size) with
      | false => simp [hc] at h
      | true =>
        simp only [hc, cond_true, Option.some.injEq] at h
        simp only [Bool.and_eq_true] at hc
        have h1 : esz = 1 := Nat.eq_of_beq_eq_true hc.1
        have h2 : n ≤ s.size := Nat.le_of_ble_eq_true hc.2
        subst h; subst h1
        rw [cb]
        have : s.data.toList.length = s.size := by rw [Array.length_toList]; rfl
        rw [List.length_take, this]; omega
    | _ => simp [elemsA] at h
  | _ => simp [elemsA] at h
theorem elems_ok {P : Program} {Γ : Ctx} (hR : HRel Γ) {a : AV} {v : Value} {esz n : Nat} {cells : List AV} (h : elemsA Γ.H esz n a = some cells) (hr : RL Γ a v) :
    ∃ arr, (Builtin.firstCells esz n v).run P Γ.w = .ok arr Γ.w ∧ All2 (RL Γ) cells arr.toList := by
  cases a with
  | osl c off len e lb =>
    obtain ⟨b, off', cap, rfl, hU, ho, hl, hlb, hb⟩ := hr.osl_inv
    simp only [elemsA] at h
    cases hg : hget Γ.H c with
    | none => simp [hg] at h
    | some ch =>
      simp only [hg] at h
      cases hc : (Nat.beq e esz && Nat.ble n len && Nat.ble (off + n * esz) ch.cells.length) with
      | false => simp [hc] at h
      | true =>
        simp only [hc, cond_true, Option.some.injEq] at h
        simp only [Bool.and_eq_true] at hc
        have h1 : e = esz := Nat.eq_of_beq_eq_true hc.1.1
        have h2 : n ≤ len := Nat.le_of_ble_eq_true hc.1.2
        have h3 : off + n * esz ≤ ch.cells.length := Nat.le_of_ble_eq_true hc.2
        obtain ⟨rfl, hsz⟩ := hb ch hg
        obtain ⟨arr, a1, a2, a3, a4⟩ := hR.arr hg
        subst h
        by_cases hn : n = 0
        · subst hn
          refine ⟨#[], by simp [Builtin.firstCells, loadCells, loadCellsFrom], ?_⟩
          simpa using All2.nil _
        · have ho' : off' = off := by rcases ho with ho | ho <;> omega
          subst ho'
          refine ⟨_, by simp only [Builtin.firstCells]; exact loadCells_arr a1 (by omega), ?_⟩
          have := (a4.drop off').take (n * esz)
          rwa [List.drop_take, List.take_take, Nat.min_eq_left (by omega)] at this
  | fsl len fc =>
    simp only [elemsA] at h
    cases hc : (Nat.ble n len && Nat.ble (n * esz) fc.length) with
    | false => simp [hc] at h
    | true =>
      simp only [hc, cond_true, Option.some.injEq] at h
      simp only [Bool.and_eq_true] at hc
      have h2 : n ≤ len := Nat.le_of_ble_eq_true hc.1
      have h3 : n * esz ≤ fc.length := Nat.le_of_ble_eq_true hc.2
      subst h
      rcases hr.fsl_inv.fsl_inv with ⟨rfl, rfl, a, cap, rfl⟩ | ⟨b, off, cap, f, rfl, hF, _, hcc, hrr⟩
      · have : n = 0 := by omega
        subst this
        exact ⟨#[], by simp [Builtin.firstCells, loadCells, loadCellsFrom], by simpa using All2.nil _⟩
      · exact ⟨_, by simp only [Builtin.firstCells]; exact loadCells_fun h3 hcc, (All2.range h3 hrr).imp fun _ _ h => .tree h⟩
  | v x =>
    have := hr.v_inv; subst this
    cases v with
    | slice p m c =>
      cases p with
      | some p => simp [elemsA] at h
      | none =>
        simp only [elemsA] at h
        cases hn : Nat.beq n 0 with
        | false => simp [hn] at h
        | true => simp [hn] at h; subst h; exact ⟨#[], rfl, .nil _⟩
    | string s =>
      simp only [elemsA] at h
      cases hc : (Nat.beq esz 1 && Nat.ble n s.size) with
      | false => simp [hc] at h
      | true =>
        simp only [hc, cond_true, Option.some.injEq] at h
        subst h
        refine ⟨_, rfl, ?_⟩
        have e : (s.extract 0 n).data.toList = s.data.toList.take n := by
          rw [ByteArray.data_extract]; simp
        have := bytes_cells Γ (s.data.toList.take n)
        rw [← e] at this
        simpa using this
    | _ => simp [elemsA] at h
  | _ => simp [elemsA] at h

/-! ### append -/
theorem growBy_le (n : Nat) : ∀ (r c : Nat), 256 ≤ c → c ≤ 2 * n → Builtin.growBy n r c ≤ 2 * n
  | 0, c, _, h => by simp [Builtin.growBy]; omega
  | r + 1, c, h1, h2 => by
    simp only [Builtin.growBy]
    split
    · omega
    · exact growBy_le n r _ (by omega) (by omega)
theorem nextslicecap_le {need cap : Nat} (h : cap < need) : Builtin.nextslicecap need cap ≤ 2 * need := by
  unfold Builtin.nextslicecap
  split
  · omega
  · split
    · omega
    · exact growBy_le need 4 cap (by omega) (by omega)

theorem run_append_fits {P : Program} {sT xT elem ty : TypeId} {dx : TypeDesc} {i : TypeInfo} (hu : P.underlying sT = some (.slice elem)) (hx : P.underlying xT = some dx) (hd : ∀ k, dx ≠ .int k)
    (hi : P.info? elem = some i) {base : Option Addr} {sLen sCap n : Nat} {x : Value} {w w' : World} {new : Array Value} (hn : (Builtin.lenOf x).run P w = .ok n w)
    (hnew : (Builtin.firstCells i.size n x).run P w = .ok new w) (hfit : sLen + n ≤ sCap)
    (hst : (match base with | some a => storeCells (a.add (sLen * i.size)) new.toList | none => pure () : Sem Unit).run P w = .ok () w') :
    (Builtin.append_ #[sT, xT] ty #[.slice base sLen sCap, x]).run P w = .ok (.slice base (sLen + n) sCap) w' := by
  have hz : (match dx with | .int _ => true | _ => false) = false := by cases dx <;> first | rfl | exact absurd rfl (hd _)
  cases base with
  | none =>
    simp at hst
    subst hst
    simp [Builtin.append_, run_underlying hu, run_sizeOf hi, run_underlying hx, hz, hn, hfit, hnew]
  | some a =>
    simp only at hst
    simp [Builtin.append_, run_underlying hu, run_sizeOf hi, run_underlying hx, hz, hn, hfit, hnew, hst]

theorem run_append_grows {P : Program} {sT xT elem ty : TypeId} {dx : TypeDesc} {i : TypeInfo} {z : Value} (hu : P.underlying sT = some (.slice elem)) (hx : P.underlying xT = some dx) (hd : ∀ k, dx ≠ .int k)
    (hi : P.info? elem = some i) (hz0 : i.zero = some z) {base : Option Addr} {sLen sCap n : Nat} {x : Value} {w : World} {old new : Array Value} (hn : (Builtin.lenOf x).run P w = .ok n w)
    (hold : (Builtin.firstCells i.size sLen (.slice base sLen sCap)).run P w.drew = .ok old w.drew)
    (hnew : (Builtin.firstCells i.size n x).run P w.drew = .ok new w.drew) (hfit : ¬ sLen + n ≤ sCap) (hb : 2 * (sLen + n) * i.bytes ≤ 281474976710656) (hm : sLen + n ≤ 140737488355328) :
    ∃ cap, sLen + n ≤ cap ∧ (Builtin.append_ #[sT, xT] ty #[.slice base sLen sCap, x]).run P w =
      .ok (.slice (some ⟨w.heap.size, 0, none⟩) (sLen + n) cap) (w.drew.alloc (.cells (old ++ new ++ Builtin.zeroCells z.cells (cap - (sLen + n))) elem (0, 0))) := by
  have hz : (match dx with | .int _ => true | _ => false) = false := by cases dx <;> first | rfl | exact absurd rfl (hd _)
  have hc : Builtin.nextslicecap (sLen + n) sCap * i.bytes ≤ 281474976710656 :=
    Nat.le_trans (Nat.mul_le_mul_right _ (nextslicecap_le (by omega))) hb
  refine ⟨(Question.appendCap (sLen + n) sCap elem).cut (w.tape w.drawn (.appendCap (sLen + n) sCap elem)), by simp [Question.cut], ?_⟩
  have hmax : ¬ ((sLen : Int) + (n : Int) > 9223372036854775807) := by omega
  have hmax' : ¬ (9223372036854775807 < (sLen : Int) + (n : Int)) := by omega
  have hc' : ¬ (281474976710656 < Builtin.nextslicecap (sLen + n) sCap * i.bytes) := by omega
  simp [Builtin.append_, run_underlying hu, run_sizeOf hi, run_underlying hx, hz, hn, hfit, run_typeInfo hi, hmax', hc', Question.forced, hold, hnew, run_zeroValue hi hz0, newRow]
  try rfl

theorem drew_ev {Γ : Ctx} (hR : HRel Γ) : Ev Γ { Γ with w := Γ.w.drew } ∧ HRel { Γ with w := Γ.w.drew } := ev_world hR Γ.w.drew rfl rfl rfl rfl

/-- A slice, and its chunk, known. -/
theorem append_ok {P : Program} {Γ : Ctx} (hR : HRel Γ) {id : Nat} (hid : ¬ Γ.U id) {sT xT elem ty : TypeId} {dx : TypeDesc} {i : TypeInfo} {z : Value} (hu : P.underlying sT = some (.slice elem))
    (hx : P.underlying xT = some dx) (hd : ∀ k, dx ≠ .int k) (hi : P.info? elem = some i) (hz0 : i.zero = some z) (hzs : z.cells.size = i.size)
    {s x r : AV} {sv xv : Value} (hs : RL Γ s sv) (hxr : RL Γ x xv) {H' : Heap} (h : appendA id elem i.size i.bytes Γ.H s x = some (r, H')) :
    Val P Γ id (Builtin.append_ #[sT, xT] ty #[sv, xv]) H' r := by
  simp only [appendA] at h
  cases hk : lenA x with
  | none => simp [hk] at h
  | some k =>
  simp only [hk] at h
  cases hn : elemsA Γ.H i.size k x with
  | none => simp [hn] at h
  | some new =>
  simp only [hn] at h
  obtain ⟨arr, hf, hall⟩ := elems_ok (P := P) hR hn hxr
  have hln := lenA_ok (P := P) hk hxr Γ.w
  have hkl : new.length = k * i.size := elems_len hn
  have hal : arr.toList.length = k * i.size := hall.1 ▸ hkl
  -- a new row, after a draw
  have grow : ∀ (base : Option Addr) (sLen sCap : Nat) (old : List AV) (H0 : Heap), sv = .slice base sLen sCap → (∀ c ch, hget H0 c = some ch → hget Γ.H c = some ch) → old.length = sLen * i.size →
      (∃ oa, (Builtin.firstCells i.size sLen (.slice base sLen sCap)).run P Γ.w = .ok oa Γ.w ∧ (Builtin.firstCells i.size sLen (.slice base sLen sCap)).run P Γ.w.drew = .ok oa Γ.w.drew ∧ All2 (RL Γ) old oa.toList) →
      ¬ sLen + k ≤ sCap → 2 * (sLen + k) * i.bytes ≤ 281474976710656 → sLen + k ≤ 140737488355328 →
      Val P Γ id (Builtin.append_ #[sT, xT] ty #[sv, xv]) ((id, ⟨elem, old ++ new⟩) :: H0) (.osl id 0 (sLen + k) i.size (sLen + k)) := by
    intro base sLen sCap old H0 e hsub hol hoa hfit hb hm
    obtain ⟨oa, ho1, ho2, ho3⟩ := hoa
    subst e
    obtain ⟨d1, d2⟩ := drew_ev hR
    obtain ⟨arr', hf', hall'⟩ := elems_ok (P := P) d2 hn (hxr.ev hR d1)
    obtain ⟨cap, hcap, hrun⟩ := run_append_grows (ty := ty) hu hx hd hi hz0 hln ho2 hf' hfit hb hm
    have hcs : (oa ++ arr' ++ Builtin.zeroCells z.cells (cap - (sLen + k))).size = cap * i.size := by
      have e1 : oa.size = sLen * i.size := by have := ho3.1; simp at this; omega
      have e2 : arr'.size = k * i.size := by have := hall'.1; simp at this; omega
      rw [Array.size_append, Array.size_append, size_zeroCells, e1, e2, hzs, ← Nat.add_mul, ← Nat.add_mul]
      congr 1; omega
    obtain ⟨e1, e2⟩ := ev_alloc d2 id hid H0 hsub elem (old ++ new) (oa ++ arr' ++ Builtin.zeroCells z.cells (cap - (sLen + k)))
      (by rw [hcs, List.length_append, hol, hkl, ← Nat.add_mul]; exact Nat.mul_le_mul_right _ hcap) (fun j a y ha hy => by
        have hall2 := ((ho3.imp fun _ _ h => h.ev hR d1).append hall')
        have hj := (List.getElem?_eq_some_iff.1 ha).1
        refine hall2.2 j a y ha ?_
        rw [← hy, ← Array.getElem?_toList, Array.toList_append, Array.toList_append]
        exact (List.getElem?_append_left (by rw [← hall2.1]; exact hj)).symm)
    refine ⟨_, _, hrun, rfl, d1.trans e1, e2, ?_, fun c hc => hc⟩
    refine .osl id 0 (sLen + k) i.size (sLen + k) _ 0 cap (.inr rfl) (.inr rfl) hcap hcap ⟨by simp, ?_⟩
    simp only [if_true]
    rw [hcs]; omega
  split at h
  · -- nil
    have := hs.v_inv; subst this
    cases hb0 : Nat.beq k 0 with
    | true =>
      simp only [hb0, cond_true, Option.some.injEq, Prod.mk.injEq] at h
      obtain ⟨rfl, rfl⟩ := h
      have hk0 : k = 0 := Nat.eq_of_beq_eq_true hb0
      subst hk0
      exact .same hR (by
        have := run_append_fits (P := P) (ty := ty) (base := none) (sLen := 0) (sCap := 0) hu hx hd hi hln hf (by omega) (w' := Γ.w) rfl
        simpa using this) (.v Γ _)
    | false =>
      simp only [hb0, cond_false] at h
      cases hb1 : (Nat.ble (2 * k * i.bytes) 281474976710656 && Nat.ble k 140737488355328) with
      | false => simp [hb1] at h
      | true =>
        simp only [hb1, cond_true, Option.some.injEq, Prod.mk.injEq] at h
        obtain ⟨rfl, rfl⟩ := h
        simp only [Bool.and_eq_true] at hb1
        have hk0 : k ≠ 0 := fun e => by rw [e] at hb0; simp at hb0
        have := grow none 0 0 [] Γ.H rfl (fun _ _ h => h) (by simp) ⟨#[], rfl, rfl, .nil _⟩ (by omega) (by simpa using Nat.le_of_ble_eq_true hb1.1) (by simpa using Nat.le_of_ble_eq_true hb1.2)
        simpa using this
  · -- a chunk's
    rename_i c off len e lb
    obtain ⟨b, off', cap, rfl, hU, hoff, hlen, hlb, hb⟩ := hs.osl_inv
    cases hg : hget Γ.H c with
    | none => simp [hg] at h
    | some ch =>
    simp only [hg] at h
    cases hc : (Nat.beq e i.size && Nat.beq ch.ty elem && Nat.ble (off + len * i.size) ch.cells.length && oneAll new) with
    | false => simp [hc] at h
    | true =>
    simp only [hc, cond_true] at h
    simp only [Bool.and_eq_true] at hc
    have he : e = i.size := Nat.eq_of_beq_eq_true hc.1.1.1
    have hty : ch.ty = elem := Nat.eq_of_beq_eq_true hc.1.1.2
    have hle : off + len * i.size ≤ ch.cells.length := Nat.le_of_ble_eq_true hc.1.2
    subst he
    obtain ⟨hblk, hsz⟩ := hb ch hg
    subst hblk
    cases hb0 : Nat.beq k 0 with
    | true =>
      simp only [hb0, cond_true, Option.some.injEq, Prod.mk.injEq] at h
      obtain ⟨rfl, rfl⟩ := h
      have hk0 : k = 0 := Nat.eq_of_beq_eq_true hb0
      subst hk0
      have hnil : arr.toList = [] := by
        have := hal; simp at this; simpa using this
      refine .same hR ?_ hs
      have := run_append_fits (P := P) (ty := ty) (base := some ⟨Γ.blk c, off', none⟩) (sLen := len) (sCap := cap) hu hx hd hi hln hf (by omega) (w' := Γ.w) (by simp [hnil, storeCells])
      simpa using this
    | false =>
    have hk0 : k ≠ 0 := fun e => by rw [e] at hb0; simp at hb0
    simp only [hb0, cond_false] at h
    cases hb1 : Nat.ble (len + k) lb with
    | true =>
      simp only [hb1, cond_true] at h
      have hle1 : len + k ≤ lb := Nat.le_of_ble_eq_true hb1
      cases hb2 : Nat.ble (off + (len + k) * i.size) ch.cells.length with
      | false => simp [hb2] at h
      | true =>
        simp only [hb2, cond_true, Option.some.injEq, Prod.mk.injEq] at h
        obtain ⟨rfl, rfl⟩ := h
        have hle2 : off + (len + k) * i.size ≤ ch.cells.length := Nat.le_of_ble_eq_true hb2
        have hoff' : off' = off := by rcases hoff with h | h <;> omega
        subst hoff'
        obtain ⟨Γ', s1, s2, s3, s4, s5, s6, s7⟩ := setCells_ok (P := P) hR hg hall hc.2 (off := off' + len * i.size) (by rw [hkl, Nat.add_assoc, ← Nat.add_mul]; exact hle2)
        have hrun := run_append_fits (P := P) (ty := ty) (base := some ⟨Γ.blk c, off', none⟩) (sLen := len) (sCap := cap) hu hx hd hi hln hf (by omega) (w' := Γ'.w) (by show (storeCells _ _).run P Γ.w = _; rw [add_none]; exact s1)
        refine ⟨_, Γ', hrun, s2, s3, s4, ?_, fun k hk => .inl (s5 ▸ hk)⟩
        refine .osl c off' (len + k) i.size lb _ off' cap (s5 ▸ hU) (.inr rfl) (by omega) hlb ?_
        rw [s6, s7]
        exact ⟨rfl, hsz⟩
    | false =>
      simp only [hb1, cond_false] at h
      cases hb2 : (Nat.beq off 0 && Nat.ble (2 * (len + k) * i.bytes) 281474976710656 && Nat.ble (len + k) 140737488355328) with
      | false => simp [hb2] at h
      | true =>
        simp only [hb2, cond_true, Option.some.injEq, Prod.mk.injEq] at h
        obtain ⟨rfl, rfl⟩ := h
        simp only [Bool.and_eq_true] at hb2
        have ho0 : off = 0 := Nat.eq_of_beq_eq_true hb2.1.1
        subst ho0
        have hbb : 2 * (len + k) * i.bytes ≤ 281474976710656 := Nat.le_of_ble_eq_true hb2.1.2
        have hbm : len + k ≤ 140737488355328 := Nat.le_of_ble_eq_true hb2.2
        obtain ⟨cur, a1, a2, a3, a4⟩ := hR.arr hg
        by_cases hfit : len + k ≤ cap
        · have hoff' : off' = 0 := by rcases hoff with h | h <;> omega
          subst hoff'
          have hroom : len * i.size + arr.toList.length ≤ cur.size := by
            rw [hal, a2, ← Nat.add_mul]
            have := Nat.mul_le_mul_right i.size hfit
            omega
          have hst := run_storeCells_at P (Γ.blk c) (len * i.size) ch.ty arr.toList 0 cur Γ.w a1 (by simpa using hroom) (hall.one hc.2)
          simp only [Nat.add_zero] at hst
          have hrun := run_append_fits (P := P) (ty := ty) (base := some ⟨Γ.blk c, 0, none⟩) (sLen := len) (sCap := cap) hu hx hd hi hln hf hfit (by show (storeCells _ _).run P Γ.w = _; rw [add_none, Nat.zero_add]; exact hst)
          have hsz1 : (cur.toList.take (len * i.size) ++ arr.toList ++ cur.toList.drop (len * i.size + arr.toList.length)).toArray.size = cur.size := by
            simp at hroom ⊢; omega
          obtain ⟨e1, e2⟩ := ev_move hR c id hid ch hg (ch.cells.take (len * i.size) ++ new) (cur.toList.take (len * i.size) ++ arr.toList ++ cur.toList.drop (len * i.size + arr.toList.length)).toArray cur a1 hsz1
            (by rw [hsz1, List.length_append, hkl, List.length_take, Nat.min_eq_left (by omega)]; rw [hal] at hroom; exact hroom) (fun j a y ha hy => by
              have h2 := ((a4.take (len * i.size))).append hall
              have hj := (List.getElem?_eq_some_iff.1 ha).1
              refine h2.2 j a y ha ?_
              rw [← hy, List.getElem?_toArray, List.take_take, Nat.min_eq_left (by omega)]
              exact (List.getElem?_append_left (by
                have := h2.1; rw [List.take_take, Nat.min_eq_left (by omega)] at this; rw [← this]; exact hj)).symm)
          rw [hty] at e1 e2
          refine ⟨_, _, hrun, rfl, e1, e2, ?_, fun c hc => hc⟩
          refine .osl id 0 (len + k) i.size (len + k) _ 0 cap (.inr rfl) (.inr rfl) hfit hfit ?_
          simp
          simpa using hsz
        · refine grow (some ⟨Γ.blk c, off', none⟩) len cap (ch.cells.take (len * i.size)) (hdel Γ.H c) rfl (fun c' ch' h' => by
            rw [hget_hdel] at h'; split at h' <;> first | (simp at h'; done) | exact h') (by simp; omega) ?_ hfit hbb hbm
          by_cases hl0 : len = 0
          · subst hl0
            exact ⟨#[], by simp [Builtin.firstCells, loadCells, loadCellsFrom], by simp [Builtin.firstCells, loadCells, loadCellsFrom], by simpa using All2.nil _⟩
          · have hoff' : off' = 0 := by rcases hoff with h | h <;> omega
            subst hoff'
            refine ⟨_, by simp only [Builtin.firstCells]; exact loadCells_arr a1 (by omega), by simp only [Builtin.firstCells]; exact loadCells_arr (w := Γ.w.drew) a1 (by omega), ?_⟩
            have := a4.take (len * i.size)
            rw [List.take_take, Nat.min_eq_left (by omega)] at this
            simpa using this
  · -- what stays
    cases hb0 : Nat.beq k 0 with
    | false => simp [hb0] at h
    | true =>
      simp only [hb0, cond_true, Option.some.injEq, Prod.mk.injEq] at h
      obtain ⟨rfl, rfl⟩ := h
      have hk0 : k = 0 := Nat.eq_of_beq_eq_true hb0
      subst hk0
      have hnil : arr.toList = [] := by
        have := hal; simp at this; simpa using this
      refine .same hR ?_ hs
      rcases hs.fsl_inv.fsl_inv with ⟨rfl, _, a, cap, rfl⟩ | ⟨b, off, cap, f, rfl, _, hl, _⟩
      · have := run_append_fits (P := P) (ty := ty) (base := some a) (sLen := 0) (sCap := cap) hu hx hd hi hln hf (by omega) (w' := Γ.w) (by simp [hnil, storeCells])
        simpa using this
      · have := run_append_fits (P := P) (ty := ty) (base := some ⟨b, off, none⟩) (sCap := cap) hu hx hd hi hln hf (by omega) (w' := Γ.w) (by simp [hnil, storeCells])
        simpa using this
  · simp at h

end Go.Am

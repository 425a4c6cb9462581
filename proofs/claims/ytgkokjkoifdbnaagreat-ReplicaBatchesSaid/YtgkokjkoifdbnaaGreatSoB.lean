import Derived.Test.YtgkokjkoifdbnaaGreatSoA
import Derived.Laws.Tables
import Derived.WalkSpells
import Derived.Laws.Pointers
import Derived.Laws.IdiomStrings
import Derived.Laws.BytesArg
import Derived.IntWalk
/- Slices: their elements, append. -/
namespace Go.Am
set_option autoImplicit false
set_option linter.unusedSimpArgs false
set_option linter.unusedVariables false

theorem lenA_ok {P : Program} {Γ : Ctx} {a : AV} {v : Value} {n : Nat} (h : lenA a = some n) (hr : RL Γ a v) (w : World) : (Builtin.lenOf v).run P w = .ok n w := by
  cases a with
  | osl c off len esz lb =>
    obtain ⟨b, off', cap, rfl, _⟩ := hr.osl_inv
    simp [lenA] at h; subst h; rfl
  | fsl len cells =>
    simp [lenA] at h; subst h
    rcases hr.fsl_inv.fsl_inv with ⟨rfl, _, a, cap, rfl⟩ | ⟨b, off, cap, f, rfl, _⟩ <;> rfl
  | v x =>
    have := hr.v_inv; subst this
    cases v <;> simp [lenA] at h <;> subst h <;> rfl
  | _ => simp [lenA] at h

theorem bytes_cells (Γ : Ctx) (l : List UInt8) : All2 (RL Γ) (cellsOfBytes l) (l.map fun b => .int .u8 b.toNat) := by
  induction l with
  | nil => exact .nil _
  | cons b r ih => exact .cons (.v Γ _) ih

theorem elems_len {H : Heap} {a : AV} {esz n : Nat} {cells : List AV} (h : elemsA H esz n a = some cells) : cells.length = n * esz := by
  have cb : ∀ l : List UInt8, (cellsOfBytes l).length = l.length := fun l => by induction l <;> simp_all [cellsOfBytes]
  cases a with
  | osl c off len e lb =>
    simp only [elemsA] at h
    cases hg : hget H c with
    | none => simp [hg] at h
    | some ch =>
      simp only [hg] at h
      cases hc : (Nat.beq e esz && Nat.ble n len && Nat.ble (off + n * esz) ch.cells.length) with
      | false => simp [hc] at h
      | true =>
        simp only [hc, cond_true, Option.some.injEq] at h
        simp only [Bool.and_eq_true] at hc
        have h3 : off + n * esz ≤ ch.cells.length := Nat.le_of_ble_eq_true hc.2
        subst h; simp; omega
  | fsl len fc =>
    simp only [elemsA] at h
    cases hc : (Nat.ble n len && Nat.ble (n * esz) fc.length) with
    | false => simp [hc] at h
    | true =>
      simp only [hc, cond_true, Option.some.injEq] at h
      simp only [Bool.and_eq_true] at hc
      have h3 : n * esz ≤ fc.length := Nat.le_of_ble_eq_true hc.2
      subst h; simp; omega
  | v x =>
    cases x with
    | slice p m c =>
      cases p with
      | some p => simp [elemsA] at h
      | none =>
        simp only [elemsA] at h
        cases hn : Nat.beq n 0 with
        | false => simp [hn] at h
        | true => simp [hn] at h; subst h; have := Nat.eq_of_beq_eq_true hn; subst this; simp
    | string s =>
      simp only [elemsA] at h
      cases hc : (Nat.beq esz 1 && Nat.ble n s.size) with
      | false => simp [hc] at h
      | true =>
        simp only [hc, cond_true, Option.some.injEq] at h
        simp only [Bool.and_eq_true] at hc
        have h1 : esz = 1 := Nat.eq_of_beq_eq_true hc.1
        have h2 : n ≤ s.size := Nat.le_of_ble_eq_true hc.2
        subst h; subst h1
        rw [cb]
        have : s.data.toList.length = s.size := by rw [Array.length_toList]; rfl
        rw [List.length_take, this]; omega
    | _ => simp [elemsA] at h
  | _ => simp [elemsA] at h
theorem elems_ok {P : Program} {Γ : Ctx} (hR : HRel Γ) {a : AV} {v : Value} {esz n : Nat} {cells : List AV} (h : elemsA Γ.H esz n a = some cells) (hr : RL Γ a v) :
    ∃ arr, (Builtin.firstCells esz n v).run P Γ.w = .ok arr Γ.w ∧ All2 (RL Γ) cells arr.toList := by
  cases a with
  | osl c off len e lb =>
    obtain ⟨b, off', cap, rfl, hU, ho, hl, hlb, hb⟩ := hr.osl_inv
    simp only [elemsA] at h
    cases hg : hget Γ.H c with
    | none => simp [hg] at h
    | some ch =>
      simp only [hg] at h
      cases hc : (Nat.beq e esz && Nat.ble n len && Nat.ble (off + n * esz) ch.cells.length) with
      | false => simp [hc] at h
      | true =>
        simp only [hc, cond_true, Option.some.injEq] at h
        simp only [Bool.and_eq_true] at hc
        have h1 : e = esz := Nat.eq_of_beq_eq_true hc.1.1
        have h2 : n ≤ len := Nat.le_of_ble_eq_true hc.1.2
        have h3 : off + n * esz ≤ ch.cells.length := Nat.le_of_ble_eq_true hc.2
        obtain ⟨rfl, hsz⟩ := hb ch hg
        obtain ⟨arr, a1, a2, a3, a4⟩ := hR.arr hg
        subst h
        by_cases hn : n = 0
        · subst hn
          refine ⟨#[], by simp [Builtin.firstCells, loadCells, loadCellsFrom], ?_⟩
          simpa using All2.nil _
        · have ho' : off' = off := by rcases ho with ho | ho <;> omega
          subst ho'
          refine ⟨_, by simp only [Builtin.firstCells]; exact loadCells_arr a1 (by omega), ?_⟩
          have := (a4.drop off').take (n * esz)
          rwa [List.drop_take, List.take_take, Nat.min_eq_left (by omega)] at this
  | fsl len fc =>
    simp only [elemsA] at h
    cases hc : (Nat.ble n len && Nat.ble (n * esz) fc.length) with
    | false => simp [hc] at h
    | true =>
      simp only [hc, cond_true, Option.some.injEq] at h
      simp only [Bool.and_eq_true] at hc
      have h2 : n ≤ len := Nat.le_of_ble_eq_true hc.1
      have h3 : n * esz ≤ fc.length := Nat.le_of_ble_eq_true hc.2
      subst h
      rcases hr.fsl_inv.fsl_inv with ⟨rfl, rfl, a, cap, rfl⟩ | ⟨b, off, cap, f, rfl, hF, _, hcc, hrr⟩
      · have : n = 0 := by omega
        subst this
        exact ⟨#[], by simp [Builtin.firstCells, loadCells, loadCellsFrom], by simpa using All2.nil _⟩
      · exact ⟨_, by simp only [Builtin.firstCells]; exact loadCells_fun h3 hcc, (All2.range h3 hrr).imp fun _ _ h => .tree h⟩
  | v x =>
    have := hr.v_inv; subst this
    cases v with
    | slice p m c =>
      cases p with
      | some p => simp [elemsA] at h
      | none =>
        simp only [elemsA] at h
        cases hn : Nat.beq n 0 with
        | false => simp [hn] at h
        | true => simp [hn] at h; subst h; exact ⟨#[], rfl, .nil _⟩
    | string s =>
      simp only [elemsA] at h
      cases hc : (Nat.beq esz 1 && Nat.ble n s.size) with
      | false => simp [hc] at h
      | true =>
        simp only [hc, cond_true, Option.some.injEq] at h
        subst h
        refine ⟨_, rfl, ?_⟩
        have e : (s.extract 0 n).data.toList = s.data.toList.take n := by
          rw [ByteArray.data_extract]; simp
        have := bytes_cells Γ (s.data.toList.take n)
        rw [← e] at this
        simpa using this
    | _ => simp [elemsA] at h
  | _ => simp [elemsA] at h

/-! ### append -/
theorem growBy_le (n : Nat) : ∀ (r c : Nat), 256 ≤ c → c ≤ 2 * n → Builtin.growBy n r c ≤ 2 * n
  | 0, c, _, h => by simp [Builtin.growBy]; omega
  | r + 1, c, h1, h2 => by
    simp only [Builtin.growBy]
    split
    · omega
    · exact growBy_le n r _ (by omega) (by omega)
theorem nextslicecap_le {need cap : Nat} (h : cap < need) : Builtin.nextslicecap need cap ≤ 2 * need := by
  unfold Builtin.nextslicecap
  split
  · omega
  · split
    · omega
    · exact growBy_le need 4 cap (by omega) (by omega)

theorem run_append_fits {P : Program} {sT xT elem ty : TypeId} {dx : TypeDesc} {i : TypeInfo} (hu : P.underlying sT = some (.slice elem)) (hx : P.underlying xT = some dx) (hd : ∀ k, dx ≠ .int k)
    (hi : P.info? elem = some i) {base : Option Addr} {sLen sCap n : Nat} {x : Value} {w w' : World} {new : Array Value} (hn : (Builtin.lenOf x).run P w = .ok n w)
    (hnew : (Builtin.firstCells i.size n x).run P w = .ok new w) (hfit : sLen + n ≤ sCap)
    (hst : (match base with | some a => storeCells (a.add (sLen * i.size)) new.toList | none => pure () : Sem Unit).run P w = .ok () w') :
    (Builtin.append_ #[sT, xT] ty #[.slice base sLen sCap, x]).run P w = .ok (.slice base (sLen + n) sCap) w' := by
  have hz : (match dx with | .int _ => true | _ => false) = false := by cases dx <;> first | rfl | exact absurd rfl (hd _)
  cases base with
  | none =>
    simp at hst
    subst hst
    simp [Builtin.append_, run_underlying hu, run_sizeOf hi, run_underlying hx, hz, hn, hfit, hnew]
  | some a =>
    simp only at hst
    simp [Builtin.append_, run_underlying hu, run_sizeOf hi, run_underlying hx, hz, hn, hfit, hnew, hst]

theorem run_append_grows {P : Program} {sT xT elem ty : TypeId} {dx : TypeDesc} {i : TypeInfo} {z : Value} (hu : P.underlying sT = some (.slice elem)) (hx : P.underlying xT = some dx) (hd : ∀ k, dx ≠ .int k)
    (hi : P.info? elem = some i) (hz0 : i.zero = some z) {base : Option Addr} {sLen sCap n : Nat} {x : Value} {w : World} {old new : Array Value} (hn : (Builtin.lenOf x).run P w = .ok n w)
    (hold : (Builtin.firstCells i.size sLen (.slice base sLen sCap)).run P w.drew = .ok old w.drew)
    (hnew : (Builtin.firstCells i.size n x).run P w.drew = .ok new w.drew) (hfit : ¬ sLen + n ≤ sCap) (hb : 2 * (sLen + n) * i.bytes ≤ 281474976710656) (hm : sLen + n ≤ 140737488355328) :
    ∃ cap, sLen + n ≤ cap ∧ (Builtin.append_ #[sT, xT] ty #[.slice base sLen sCap, x]).run P w =
      .ok (.slice (some ⟨w.heap.size, 0, none⟩) (sLen + n) cap) (w.drew.alloc (.cells (old ++ new ++ Builtin.zeroCells z.cells (cap - (sLen + n))) elem (0, 0))) := by
  have hz : (match dx with | .int _ => true | _ => false) = false := by cases dx <;> first | rfl | exact absurd rfl (hd _)
  have hc : Builtin.nextslicecap (sLen + n) sCap * i.bytes ≤ 281474976710656 :=
    Nat.le_trans (Nat.mul_le_mul_right _ (nextslicecap_le (by omega))) hb
  refine ⟨(Question.appendCap (sLen + n) sCap elem).cut (w.tape w.drawn (.appendCap (sLen + n) sCap elem)), by simp [Question.cut], ?_⟩
  have hmax : ¬ ((sLen : Int) + (n : Int) > 9223372036854775807) := by omega
  have hmax' : ¬ (9223372036854775807 < (sLen : Int) + (n : Int)) := by omega
  have hc' : ¬ (281474976710656 < Builtin.nextslicecap (sLen + n) sCap * i.bytes) := by omega
  simp [Builtin.append_, run_underlying hu, run_sizeOf hi, run_underlying hx, hz, hn, hfit, run_typeInfo hi, hmax', hc', Question.forced, hold, hnew, run_zeroValue hi hz0, newRow]
  try rfl

theorem drew_ev {Γ : Ctx} (hR : HRel Γ) : Ev Γ { Γ with w := Γ.w.drew } ∧ HRel { Γ with w := Γ.w.drew } := ev_world hR Γ.w.drew rfl rfl rfl rfl

/-- A slice, and its chunk, known. -/
theorem append_ok {P : Program} {Γ : Ctx} (hR : HRel Γ) {id : Nat} (hid : ¬ Γ.U id) {sT xT elem ty : TypeId} {dx : TypeDesc} {i : TypeInfo} {z : Value} (hu : P.underlying sT = some (.slice elem))
    (hx : P.underlying xT = some dx) (hd : ∀ k, dx ≠ .int k) (hi : P.info? elem = some i) (hz0 : i.zero = some z) (hzs : z.cells.size = i.size)
    {s x r : AV} {sv xv : Value} (hs : RL Γ s sv) (hxr : RL Γ x xv) {H' : Heap} (h : appendA id elem i.size i.bytes Γ.H s x = some (r, H')) :
    Val P Γ id (Builtin.append_ #[sT, xT] ty #[sv, xv]) H' r := by
  simp only [appendA] at h
  cases hk : lenA x with
  | none => simp [hk] at h
  | some k =>
  simp only [hk] at h
  cases hn : elemsA Γ.H i.size k x with
  | none => simp [hn] at h
  | some new =>
  simp only [hn] at h
  obtain ⟨arr, hf, hall⟩ := elems_ok (P := P) hR hn hxr
  have hln := lenA_ok (P := P) hk hxr Γ.w
  have hkl : new.length = k * i.size := elems_len hn
  have hal : arr.toList.length = k * i.size := hall.1 ▸ hkl
  -- a new row, after a draw
  have grow : ∀ (base : Option Addr) (sLen sCap : Nat) (old : List AV) (H0 : Heap), sv = .slice base sLen sCap → (∀ c ch, hget H0 c = some ch → hget Γ.H c = some ch) → old.length = sLen * i.size →
      (∃ oa, (Builtin.firstCells i.size sLen (.slice base sLen sCap)).run P Γ.w = .ok oa Γ.w ∧ (Builtin.firstCells i.size sLen (.slice base sLen sCap)).run P Γ.w.drew = .ok oa Γ.w.drew ∧ All2 (RL Γ) old oa.toList) →
      ¬ sLen + k ≤ sCap → 2 * (sLen + k) * i.bytes ≤ 281474976710656 → sLen + k ≤ 140737488355328 →
      Val P Γ id (Builtin.append_ #[sT, xT] ty #[sv, xv]) ((id, ⟨elem, old ++ new⟩) :: H0) (.osl id 0 (sLen + k) i.size (sLen + k)) := by
    intro base sLen sCap old H0 e hsub hol hoa hfit hb hm
    obtain ⟨oa, ho1, ho2, ho3⟩ := hoa
    subst e
    obtain ⟨d1, d2⟩ := drew_ev hR
    obtain ⟨arr', hf', hall'⟩ := elems_ok (P := P) d2 hn (hxr.ev hR d1)
    obtain ⟨cap, hcap, hrun⟩ := run_append_grows (ty := ty) hu hx hd hi hz0 hln ho2 hf' hfit hb hm
    have hcs : (oa ++ arr' ++ Builtin.zeroCells z.cells (cap - (sLen + k))).size = cap * i.size := by
      have e1 : oa.size = sLen * i.size := by have := ho3.1; simp at this; omega
      have e2 : arr'.size = k * i.size := by have := hall'.1; simp at this; omega
      rw [Array.size_append, Array.size_append, size_zeroCells, e1, e2, hzs, ← Nat.add_mul, ← Nat.add_mul]
      congr 1; omega
    obtain ⟨e1, e2⟩ := ev_alloc d2 id hid H0 hsub elem (old ++ new) (oa ++ arr' ++ Builtin.zeroCells z.cells (cap - (sLen + k)))
      (by rw [hcs, List.length_append, hol, hkl, ← Nat.add_mul]; exact Nat.mul_le_mul_right _ hcap) (fun j a y ha hy => by
        have hall2 := ((ho3.imp fun _ _ h => h.ev hR d1).append hall')
        have hj := (List.getElem?_eq_some_iff.1 ha).1
        refine hall2.2 j a y ha ?_
        rw [← hy, ← Array.getElem?_toList, Array.toList_append, Array.toList_append]
        exact (List.getElem?_append_left (by rw [← hall2.1]; exact hj)).symm)
    refine ⟨_, _, hrun, rfl, d1.trans e1, e2, ?_, fun c hc => hc⟩
    refine .osl id 0 (sLen + k) i.size (sLen + k) _ 0 cap (.inr rfl) (.inr rfl) hcap hcap ⟨by simp, ?_⟩
    simp only [if_true]
    rw [hcs]; omega
  split at h
  · -- nil
    have := hs.v_inv; subst this
    cases hb0 : Nat.beq k 0 with
    | true =>
      simp only [hb0, cond_true, Option.some.injEq, Prod.mk.injEq] at h
      obtain ⟨rfl, rfl⟩ := h
      have hk0 : k = 0 := Nat.eq_of_beq_eq_true hb0
      subst hk0
      exact .same hR (by
        have := run_append_fits (P := P) (ty := ty) (base := none) (sLen := 0) (sCap := 0) hu hx hd hi hln hf (by omega) (w' := Γ.w) rfl
        simpa using this) (.v Γ _)
    | false =>
      simp only [hb0, cond_false] at h
      cases hb1 : (Nat.ble (2 * k * i.bytes) 281474976710656 && Nat.ble k 140737488355328) with
      | false => simp [hb1] at h
      | true =>
        simp only [hb1, cond_true, Option.some.injEq, Prod.mk.injEq] at h
        obtain ⟨rfl, rfl⟩ := h
        simp only [Bool.and_eq_true] at hb1
        have hk0 : k ≠ 0 := fun e => by rw [e] at hb0; simp at hb0
        have := grow none 0 0 [] Γ.H rfl (fun _ _ h => h) (by simp) ⟨#[], rfl, rfl, .nil _⟩ (by omega) (by simpa using Nat.le_of_ble_eq_true hb1.1) (by simpa using Nat.le_of_ble_eq_true hb1.2)
        simpa using this
  · -- a chunk's
    rename_i c off len e lb
    obtain ⟨b, off', cap, rfl, hU, hoff, hlen, hlb, hb⟩ := hs.osl_inv
    cases hg : hget Γ.H c with
    | none => simp [hg] at h
    | some ch =>
    simp only [hg] at h
    cases hc : (Nat.beq e i.size && Nat.beq ch.ty elem && Nat.ble (off + len * i.size) ch.cells.length && oneAll new) with
    | false => simp [hc] at h
    | true =>
    simp only [hc, cond_true] at h
    simp only [Bool.and_eq_true] at hc
    have he : e = i.size := Nat.eq_of_beq_eq_true hc.1.1.1
    have hty : ch.ty = elem := Nat.eq_of_beq_eq_true hc.1.1.2
    have hle : off + len * i.size ≤ ch.cells.length := Nat.le_of_ble_eq_true hc.1.2
    subst he
    obtain ⟨hblk, hsz⟩ := hb ch hg
    subst hblk
    cases hb0 : Nat.beq k 0 with
    | true =>
      simp only [hb0, cond_true, Option.some.injEq, Prod.mk.injEq] at h
      obtain ⟨rfl, rfl⟩ := h
      have hk0 : k = 0 := Nat.eq_of_beq_eq_true hb0
      subst hk0
      have hnil : arr.toList = [] := by
        have := hal; simp at this; simpa using this
      refine .same hR ?_ hs
      have := run_append_fits (P := P) (ty := ty) (base := some ⟨Γ.blk c, off', none⟩) (sLen := len) (sCap := cap) hu hx hd hi hln hf (by omega) (w' := Γ.w) (by simp [hnil, storeCells])
      simpa using this
    | false =>
    have hk0 : k ≠ 0 := fun e => by rw [e] at hb0; simp at hb0
    simp only [hb0, cond_false] at h
    cases hb1 : Nat.ble (len + k) lb with
    | true =>
      simp only [hb1, cond_true] at h
      have hle1 : len + k ≤ lb := Nat.le_of_ble_eq_true hb1
      cases hb2 : Nat.ble (off + (len + k) * i.size) ch.cells.length with
      | false => simp [hb2] at h
      | true =>
        simp only [hb2, cond_true, Option.some.injEq, Prod.mk.injEq] at h
        obtain ⟨rfl, rfl⟩ := h
        have hle2 : off + (len + k) * i.size ≤ ch.cells.length := Nat.le_of_ble_eq_true hb2
        have hoff' : off' = off := by rcases hoff with h | h <;> omega
        subst hoff'
        obtain ⟨Γ', s1, s2, s3, s4, s5, s6, s7⟩ := setCells_ok (P := P) hR hg hall hc.2 (off := off' + len * i.size) (by rw [hkl, Nat.add_assoc, ← Nat.add_mul]; exact hle2)
        have hrun := run_append_fits (P := P) (ty := ty) (base := some ⟨Γ.blk c, off', none⟩) (sLen := len) (sCap := cap) hu hx hd hi hln hf (by omega) (w' := Γ'.w) (by show (storeCells _ _).run P Γ.w = _; rw [add_none]; exact s1)
        refine ⟨_, Γ', hrun, s2, s3, s4, ?_, fun k hk => .inl (s5 ▸ hk)⟩
        refine .osl c off' (len + k) i.size lb _ off' cap (s5 ▸ hU) (.inr rfl) (by omega) hlb ?_
        rw [s6, s7]
        exact ⟨rfl, hsz⟩
    | false =>
      simp only [hb1, cond_false] at h
      cases hb2 : (Nat.beq off 0 && Nat.ble (2 * (len + k) * i.bytes) 281474976710656 && Nat.ble (len + k) 140737488355328) with
      | false => simp [hb2] at h
      | true =>
        simp only [hb2, cond_true, Option.some.injEq, Prod.mk.injEq] at h
        obtain ⟨rfl, rfl⟩ := h
        simp only [Bool.and_eq_true] at hb2
        have ho0 : off = 0 := Nat.eq_of_beq_eq_true hb2.1.1
        subst ho0
        have hbb : 2 * (len + k) * i.bytes ≤ 281474976710656 := Nat.le_of_ble_eq_true hb2.1.2
        have hbm : len + k ≤ 140737488355328 := Nat.le_of_ble_eq_true hb2.2
        obtain ⟨cur, a1, a2, a3, a4⟩ := hR.arr hg
        by_cases hfit : len + k ≤ cap
        · have hoff' : off' = 0 := by rcases hoff with h | h <;> omega
          subst hoff'
          have hroom : len * i.size + arr.toList.length ≤ cur.size := by
            rw [hal, a2, ← Nat.add_mul]
            have := Nat.mul_le_mul_right i.size hfit
            omega
          have hst := run_storeCells_at P (Γ.blk c) (len * i.size) ch.ty arr.toList 0 cur Γ.w a1 (by simpa using hroom) (hall.one hc.2)
          simp only [Nat.add_zero] at hst
          have hrun := run_append_fits (P := P) (ty := ty) (base := some ⟨Γ.blk c, 0, none⟩) (sLen := len) (sCap := cap) hu hx hd hi hln hf hfit (by show (storeCells _ _).run P Γ.w = _; rw [add_none, Nat.zero_add]; exact hst)
          have hsz1 : (cur.toList.take (len * i.size) ++ arr.toList ++ cur.toList.drop (len * i.size + arr.toList.length)).toArray.size = cur.size := by
            simp at hroom ⊢; omega
          obtain ⟨e1, e2⟩ := ev_move hR c id hid ch hg (ch.cells.take (len * i.size) ++ new) (cur.toList.take (len * i.size) ++ arr.toList ++ cur.toList.drop (len * i.size + arr.toList.length)).toArray cur a1 hsz1
            (by rw [hsz1, List.length_append, hkl, List.length_take, Nat.min_eq_left (by omega)]; rw [hal] at hroom; exact hroom) (fun j a y ha hy => by
              have h2 := ((a4.take (len * i.size))).append hall
              have hj := (List.getElem?_eq_some_iff.1 ha).1
              refine h2.2 j a y ha ?_
              rw [← hy, List.getElem?_toArray, List.take_take, Nat.min_eq_left (by omega)]
              exact (List.getElem?_append_left (by
                have := h2.1; rw [List.take_take, Nat.min_eq_left (by omega)] at this; rw [← this]; exact hj)).symm)
          rw [hty] at e1 e2
          refine ⟨_, _, hrun, rfl, e1, e2, ?_, fun c hc => hc⟩
          refine .osl id 0 (len + k) i.size (len + k) _ 0 cap (.inr rfl) (.inr rfl) hfit hfit ?_
          simp
          simpa using hsz
        · refine grow (some ⟨Γ.blk c, off', none⟩) len cap (ch.cells.take (len * i.size)) (hdel Γ.H c) rfl (fun c' ch' h' => by
            rw [hget_hdel] at h'; split at h' <;> first | (simp at h'; done) | exact h') (by simp; omega) ?_ hfit hbb hbm
          by_cases hl0 : len = 0
          · subst hl0
            exact ⟨#[], by simp [Builtin.firstCells, loadCells, loadCellsFrom], by simp [Builtin.firstCells, loadCells, loadCellsFrom], by simpa using All2.nil _⟩
          · have hoff' : off' = 0 := by rcases hoff with h | h <;> omega
            subst hoff'
            refine ⟨_, by simp only [Builtin.firstCells]; exact loadCells_arr a1 (by omega), by simp only [Builtin.firstCells]; exact loadCells_arr (w := Γ.w.drew) a1 (by omega), ?_⟩
            have := a4.take (len * i.size)
            rw [List.take_take, Nat.min_eq_left (by omega)] at this
            simpa using this
  · -- what stays
    cases hb0 : Nat.beq k 0 with
    | false => simp [hb0] at h
    | true =>
      simp only [hb0, cond_true, Option.some.injEq, Prod.mk.injEq] at h
      obtain ⟨rfl, rfl⟩ := h
      have hk0 : k = 0 := Nat.eq_of_beq_eq_true hb0
      subst hk0
      have hnil : arr.toList = [] := by
        have := hal; simp at this; simpa using this
      refine .same hR ?_ hs
      rcases hs.fsl_inv.fsl_inv with ⟨rfl, _, a, cap, rfl⟩ | ⟨b, off, cap, f, rfl, _, hl, _⟩
      · have := run_append_fits (P := P) (ty := ty) (base := some a) (sLen := 0) (sCap := cap) hu hx hd hi hln hf (by omega) (w' := Γ.w) (by simp [hnil, storeCells])
        simpa using this
      · have := run_append_fits (P := P) (ty := ty) (base := some ⟨b, off, none⟩) (sCap := cap) hu hx hd hi hln hf (by omega) (w' := Γ.w) (by simp [hnil, storeCells])
        simpa using this
  · simp at h

end Go.Am

/- Structs and slices that are built; places in slices; bytes. -/
namespace Go.Am
set_option autoImplicit false
set_option linter.unusedSimpArgs false
set_option linter.unusedVariables false

theorem foldl_set (off : Nat) : ∀ (vs : List Value) (k : Nat) (cells : Array Value), off + k + vs.length ≤ cells.size →
    ((vs.zipIdx k).foldl (fun cs (p : Value × Nat) => cs.setIfInBounds (off + p.2) p.1) cells).toList = cells.toList.take (off + k) ++ vs ++ cells.toList.drop (off + k + vs.length)
  | [], k, cells, h => by simp
  | v :: rest, k, cells, h => by
    simp only [List.zipIdx_cons, List.foldl_cons]
    rw [foldl_set off rest (k + 1) _ (by simp at h ⊢; omega)]
    have e := list_seg_step cells.toList (off + k) v rest (by simp at h ⊢; omega)
    simpa [Array.toList_setIfInBounds, Nat.add_assoc] using e

theorem All2.fill {Γ : Ctx} {place : Nat → Option (Nat × Nat)} : ∀ (parts : List (Nat × Nat × List AV)) (vparts : List (Nat × Value)) (cs r : List AV) (vs : Array Value), All2 (RL Γ) cs vs.toList → fillA cs parts = some r →
    parts.length = vparts.length → (∀ (j : Nat) (p : Nat × Nat × List AV) (q : Nat × Value), parts[j]? = some p → vparts[j]? = some q → place q.1 = some (p.1, p.2.1) ∧ All2 (RL Γ) p.2.2 q.2.cells.toList) →
    ∃ cells, Instr.fill place vs vparts = some cells ∧ All2 (RL Γ) r cells.toList
  | [], [], cs, r, vs, h, hf, _, _ => by
    simp [fillA] at hf; subst hf
    exact ⟨vs, rfl, h⟩
  | p :: ps, [], _, _, _, _, _, hl, _ => by simp at hl
  | [], q :: qs, _, _, _, _, _, hl, _ => by simp at hl
  | (off, sz, xs) :: ps, (i, v) :: qs, cs, r, vs, h, hf, hl, hp => by
    simp only [fillA] at hf
    cases hc : (Nat.beq xs.length sz && Nat.ble (off + sz) cs.length) with
    | false => simp [hc] at hf
    | true =>
      simp only [hc, cond_true] at hf
      simp only [Bool.and_eq_true] at hc
      have h1 : xs.length = sz := Nat.eq_of_beq_eq_true hc.1
      have h2 : off + sz ≤ cs.length := Nat.le_of_ble_eq_true hc.2
      obtain ⟨hpl, hx⟩ := hp 0 _ _ rfl rfl
      have hsz : v.cells.size = sz := by have := hx.1; simp at this; omega
      have hvs : vs.size = cs.length := by have := h.1; simp at this; omega
      have hcond : ¬ (v.cells.size ≠ sz ∨ off + v.cells.size > vs.size) := by omega
      simp only [Instr.fill, hpl]
      rw [if_neg (by simp; omega)]
      refine All2.fill ps qs (Am.splice cs off xs) r _ ?_ hf (by simpa using hl) (fun j p q h1 h2 => hp (j + 1) p q (by simpa using h1) (by simpa using h2))
      have e := foldl_set off v.cells.toList 0 vs (by simp; omega)
      simp only [Nat.add_zero] at e
      have : (v.cells.zipIdx.foldl (fun cs (x : Value × Nat) => match x with | (c, j) => cs.setIfInBounds (off + j) c) vs).toList = vs.toList.take off ++ v.cells.toList ++ vs.toList.drop (off + v.cells.toList.length) := by
        rw [← e, ← Array.foldl_toList, Array.toList_zipIdx]
      rw [this]
      exact h.splice hx off

theorem repA_ok (Γ : Ctx) (z : Array Value) (n : Nat) : All2 (RL Γ) (repA (z.toList.map .v) n) (((Array.range (n * z.size)).map (z[· % z.size]!)).toList) := by
  have key : ∀ n, ((Array.range (n * z.size)).map (z[· % z.size]!)).toList = (List.replicate n z.toList).flatten := by
    intro n
    induction n with
    | zero => simp
    | succ n ih =>
      rw [List.replicate_succ', List.flatten_append, ← ih]
      apply List.ext_getElem
      · simp [Nat.add_mul]
      · intro j h1 h2
        simp only [Array.length_toList, Array.size_map, Array.size_range] at h1
        simp only [Array.toList_map, Array.toList_range, List.getElem_map, List.getElem_range]
        by_cases hj : j < n * z.size
        · rw [List.getElem_append_left (by simpa using hj)]; simp
        · rw [List.getElem_append_right (by simpa using hj)]
          have h3 : j < (n + 1) * z.size := h1
          have hz : j - n * z.size < z.size := by rw [Nat.add_mul] at h3; omega
          have : j % z.size = j - n * z.size := by
            have e : j = z.size * n + (j - n * z.size) := by rw [Nat.mul_comm]; omega
            conv => lhs; rw [e]
            rw [Nat.mul_add_mod, Nat.mod_eq_of_lt hz]
          simp [this, hz]
  rw [key]
  induction n with
  | zero => exact .nil _
  | succ n ih =>
    simp only [repA, List.replicate_succ, List.flatten_cons]
    refine All2.append ⟨by simp, fun j a x ha hx => ?_⟩ ih
    simp only [List.getElem?_map, Option.map_eq_some_iff] at ha
    obtain ⟨y, hy, rfl⟩ := ha
    rw [hx] at hy; injection hy with hy; subst hy
    exact .v Γ _
theorem zeroCells_eq (z : Array Value) (n : Nat) : Builtin.zeroCells z n = (Array.range (n * z.size)).map (z[· % z.size]!) := rfl

/-- A slice of a new row. -/
theorem RL.newSlice {Γ : Ctx} {id n esz b : Nat} (hU : Γ.U id) (hb : Γ.blk id = b) (hs : Γ.siz id = n * esz) (k : Nat) (hk : k ≤ n) : RL Γ (.osl id 0 k esz n) (.slice (some ⟨b, 0, none⟩) k n) :=
  .osl id 0 k esz n b 0 n hU (.inr rfl) hk (Nat.le_refl _) ⟨hb.symm, by omega⟩

/-! ### Places -/
theorem intA_ok {Γ : Ctx} {a : AV} {v : Value} {n : Int} (h : intA a = some n) (hr : RL Γ a v) : ∃ k, v = .int k n := by
  cases a with
  | v x =>
    have := hr.v_inv; subst this
    cases v <;> simp [intA] at h
    subst h; exact ⟨_, rfl⟩
  | _ => simp [intA] at h
theorem boolA_ok {Γ : Ctx} {a : AV} {v : Value} {b : Bool} (h : boolA a = some b) (hr : RL Γ a v) : v = .bool b := by
  cases a with
  | v x =>
    have := hr.v_inv; subst this
    cases v <;> simp [boolA] at h
    subst h; rfl
  | _ => simp [boolA] at h

theorem fieldPlace_ok {P : Program} {f : Field} {i : TypeInfo} (hi : P.info? f.type = some i) (hs : i.size ≠ 0) (a : Addr) (w : World) : (fieldPlace a f).run P w = .ok (a.add f.offset) w := by
  simp [fieldPlace, run_sizeOf hi, hs]

theorem RT.drop {F : Nat → Prop} {w : World} {cells : List AV} {b off : Nat} {f : Nat → Value} (hF : F b) (hc : ∀ (j : Nat) (a : AV), cells[j]? = some a → w.cell? ⟨b, off + j, none⟩ = some (f j))
    (hr : ∀ (j : Nat) (a : AV), cells[j]? = some a → RT F w a (f j)) (n : Nat) : RT F w (.eptr (cells.drop n)) (.pointer (some ⟨b, off + n, none⟩)) :=
  .eptr b (off + n) (cells.drop n) (fun j => f (n + j)) hF (fun j a ha => by rw [List.getElem?_drop] at ha; rw [Nat.add_assoc]; exact hc _ a ha) (fun j a ha => by rw [List.getElem?_drop] at ha; exact hr _ a ha)

theorem iaddr_slice {P : Program} {Γ : Ctx} {t e : TypeId} {i : TypeInfo} (hu : P.underlying t = some (.slice e)) (hi : P.info? e = some i) {x r : AV} {xv : Value} {k : IntKind} {n : Int} (hx : RL Γ x xv)
    (h : iaddrA i.size n x = some r) (w : World) : ∃ v, (Instr.indexAt t xv (.int k n)).run P w = .ok v w ∧ RL Γ r v := by
  cases x with
  | osl c off len e' lb =>
    obtain ⟨b, off', cap, rfl, hU, ho, hl, hlb, hb⟩ := hx.osl_inv'
    simp only [iaddrA] at h
    split at h
    · rename_i hc
      simp only [Option.some.injEq] at h; subst h
      have : off' = off := by rcases ho with h | h <;> omega
      subst this
      refine ⟨.pointer (some ⟨b, off' + n.toNat * i.size, none⟩), ?_, .ptr _ _ b hU hb.1⟩
      simp [Instr.indexAt, asIntOf, run_underlying hu, hc.1, hc.2.1, run_sizeOf hi, add_none]
    · simp at h
  | fsl len cells =>
    simp only [iaddrA] at h
    split at h
    · rename_i hc
      simp only [Option.some.injEq] at h; subst h
      rcases hx.fsl_inv.fsl_inv with ⟨rfl, _⟩ | ⟨b, off, cap, f, rfl, hF, hl, hcc, hrr⟩
      · omega
      · refine ⟨.pointer (some ⟨b, off + n.toNat * i.size, none⟩), ?_, .tree (RT.drop hF hcc hrr _)⟩
        simp [Instr.indexAt, asIntOf, run_underlying hu, hc.1, hc.2, run_sizeOf hi, add_none]
    · simp at h
  | _ => simp [iaddrA] at h

theorem iaddr_array {P : Program} {Γ : Ctx} {t e : TypeId} {len : Nat} {i : TypeInfo} (hu : P.underlying t = some (.array len e)) (hi : P.info? e = some i) {x r : AV} {xv : Value} {k : IntKind} {n : Int} (hx : RL Γ x xv)
    (h0 : 0 ≤ n) (h1 : n < len)
    (h : aaddrA i.size n x = some r) (w : World) : ∃ v, (Instr.indexAt t xv (.int k n)).run P w = .ok v w ∧ RL Γ r v := by
  cases x with
  | ptr c off =>
    obtain ⟨b, rfl, hU, hb⟩ := hx.ptr_inv'
    simp only [aaddrA, Option.some.injEq] at h; subst h
    refine ⟨.pointer (some ⟨b, off + n.toNat * i.size, none⟩), ?_, .ptr _ _ b hU hb⟩
    simp [Instr.indexAt, asIntOf, run_underlying hu, h0, h1, run_sizeOf hi, add_none, Instr.sureAddr]
  | eptr cells =>
    obtain ⟨b, off, f, rfl, hF, hcc, hrr⟩ := hx.eptr_inv.eptr_inv
    simp only [aaddrA, Option.some.injEq] at h; subst h
    refine ⟨.pointer (some ⟨b, off + n.toNat * i.size, none⟩), ?_, .tree (RT.drop hF hcc hrr _)⟩
    simp [Instr.indexAt, asIntOf, run_underlying hu, h0, h1, run_sizeOf hi, add_none, Instr.sureAddr]
  | _ => simp [aaddrA] at h

theorem faddr_ok {P : Program} {Γ : Ctx} {s : TypeId} {fs : Array Field} {f : Nat} {fd : Field} {i : TypeInfo} (hu : P.underlying s = some (.struct fs)) (hf : fs[f]? = some fd) (hi : P.info? fd.type = some i) (hs : i.size ≠ 0)
    {x r : AV} {xv : Value} (hx : RL Γ x xv)
    (h : faddrA fd.offset x = some r) (w : World) : ∃ v, (Instr.fieldAt s xv f).run P w = .ok v w ∧ RL Γ r v := by
  cases x with
  | ptr c off =>
    obtain ⟨b, rfl, hU, hb⟩ := hx.ptr_inv'
    simp only [faddrA, Option.some.injEq] at h; subst h
    refine ⟨.pointer (some ⟨b, off + fd.offset, none⟩), ?_, .ptr _ _ b hU hb⟩
    simp [Instr.fieldAt, run_underlying hu, hf, Instr.sureAddr, fieldPlace_ok hi hs, add_none]
  | eptr cells =>
    obtain ⟨b, off, g, rfl, hF, hcc, hrr⟩ := hx.eptr_inv.eptr_inv
    simp only [faddrA, Option.some.injEq] at h; subst h
    refine ⟨.pointer (some ⟨b, off + fd.offset, none⟩), ?_, .tree (RT.drop hF hcc hrr _)⟩
    simp [Instr.fieldAt, run_underlying hu, hf, Instr.sureAddr, fieldPlace_ok hi hs, add_none]
  | _ => simp [faddrA] at h

/-- A part of a struct's cells. -/
theorem part_ok {P : Program} {Γ : Ctx} {t : TypeId} {d : TypeDesc} {i : TypeInfo} (hu : P.underlying t = some d) (hi : P.info? t = some i) {cs : List AV} {vs : Array Value} (h : All2 (RL Γ) cs vs.toList) {off : Nat} {r : AV}
    (hr : (bif aggD d then (bif Nat.ble (off + i.size) cs.length then some (AV.agg ((cs.drop off).take i.size)) else none) else cs[off]?) = some r) (w : World) :
    ∃ v, (part t vs off).run P w = .ok v w ∧ RL Γ r v := by
  cases hd : aggD d with
  | true =>
    simp only [hd, cond_true] at hr
    cases hb : Nat.ble (off + i.size) cs.length with
    | false => simp [hb] at hr
    | true =>
      simp only [hb, cond_true, Option.some.injEq] at hr
      subst hr
      refine ⟨.agg (vs.extract off (off + i.size)), by simp [part, run_isAgg hu, hd, run_sizeOf hi], ?_⟩
      have := (h.drop off).take i.size
      have e : (vs.toList.drop off).take i.size = (vs.extract off (off + i.size)).toList := by simp [List.extract, List.drop_take]
      rw [e] at this
      have h3 := this.arr
      rwa [Array.toArray_toList] at h3
  | false =>
    simp only [hd, cond_false] at hr
    obtain ⟨v, hv, hrl⟩ := h.get hr
    have hv' : vs[off]? = some v := by simpa using hv
    exact ⟨v, by simp [part, run_isAgg hu, hd, hv'], hrl⟩

/-! ### Slicing -/
theorem bound_ok {P : Program} {Γ : Ctx} {a : AV} {v : Value} {n : Int} (h : intA a = some n) (hr : RL Γ a v) (h0 : ¬ n < 0) {y : Nat} (hy : n.toNat ≤ y) (code : BoundsCode) (w : World) : (Instr.sliceBound v y code).run P w = .ok n.toNat w := by
  obtain ⟨k, rfl⟩ := intA_ok h hr
  have : 0 ≤ n ∧ n ≤ (y : Int) := by omega
  simp [Instr.sliceBound, asIntOf, this]

/-- Two optional values. -/
def RO (Γ : Ctx) (o : Option AV) (v : Option Value) : Prop := match o, v with
  | none, none => True
  | some a, some v => RL Γ a v
  | _, _ => False

theorem bounds_ok {P : Program} {Γ : Ctx} {lo hi mx : Option AV} {lv hv mv : Option Value} (hl : RO Γ lo lv) (hh : RO Γ hi hv) (hm : RO Γ mx mv) {len cap l h m m' : Nat} (isSlice : Bool)
    (e1 : optI lo 0 = some l) (e2 : optI hi len = some h) (e3 : optI mx m' = some m) (h1 : l ≤ h) (h2 : h ≤ m) (h3 : m ≤ cap) (hmx : mx.isSome → hi.isSome) (hm' : m' ≤ cap) (w : World) :
    (Instr.sliceBounds isSlice len cap lv hv mv).run P w = .ok (l, h, if mx.isSome then m else cap) w := by
  have key : ∀ (o : Option AV) (v : Option Value) (d n y : Nat) (code : BoundsCode), RO Γ o v → optI o d = some n → n ≤ y → (v = none ∧ o = none ∧ n = d) ∨ ∃ u, v = some u ∧ o.isSome ∧ ∀ w, (Instr.sliceBound u y code).run P w = .ok n w := by
    intro o v d n y code hr ho hy
    cases o with
    | none => cases v with
      | none => simp [optI] at ho; exact .inl ⟨rfl, rfl, ho.symm⟩
      | some v => exact absurd hr (by simp [RO])
    | some a => cases v with
      | none => exact absurd hr (by simp [RO])
      | some v =>
        simp only [optI] at ho
        split at ho
        · simp at ho
        · rename_i n' hn'
          split at ho
          · simp at ho
          · rename_i hn0
            simp only [Option.some.injEq] at ho; subst ho
            exact .inr ⟨v, rfl, rfl, fun w => bound_ok hn' hr hn0 hy code w⟩
  unfold Instr.sliceBounds
  rcases key mx mv m' m cap (if isSlice then .slice3Acap else .slice3Alen) hm e3 h3 with ⟨rfl, rfl, rfl⟩ | ⟨u, rfl, hms, hmr⟩
  · rcases key hi hv len h cap (if isSlice then .sliceAcap else .sliceAlen) hh e2 (by omega) with ⟨rfl, rfl, rfl⟩ | ⟨u2, rfl, _, hhr⟩
    · rcases key lo lv 0 l h .sliceB hl e1 h1 with ⟨rfl, _, rfl⟩ | ⟨u3, rfl, _, hlr⟩
      · simp
      · simp [hlr]
    · rcases key lo lv 0 l h .sliceB hl e1 h1 with ⟨rfl, _, rfl⟩ | ⟨u3, rfl, _, hlr⟩
      · simp [hhr]
      · simp [hhr, hlr]
  · rcases key hi hv len h m .slice3B hh e2 h2 with ⟨rfl, rfl, rfl⟩ | ⟨u2, rfl, _, hhr⟩
    · simp [hms] at hmx
    · rcases key lo lv 0 l h .slice3C hl e1 h1 with ⟨rfl, _, rfl⟩ | ⟨u3, rfl, _, hlr⟩
      · simp [hmr, hhr, hms]
      · simp [hmr, hhr, hlr, hms]

end Go.Am

/- Slicing, copy, clear, bytes and strings, make, max and min. -/
namespace Go.Am
set_option autoImplicit false
set_option linter.unusedSimpArgs false
set_option linter.unusedVariables false

theorem sliceS_ok {P : Program} {Γ : Ctx} {t : TypeId} (hu : P.underlying t = some .string) {x r : AV} {xv : Value} (hx : RL Γ x xv)
    {lo hi : Option AV} {lv hv : Option Value} (hl : RO Γ lo lv) (hh : RO Γ hi hv) (h : sliceSA x lo hi = some r) (w : World) :
    ∃ v, (Instr.sliceAt t xv lv hv none).run P w = .ok v w ∧ RL Γ r v := by
  unfold sliceSA at h
  split at h
  · rename_i s
    have := hx.v_inv; subst this
    split at h
    · rename_i l hh' e1 e2
      cases hc : (Nat.ble l hh' && Nat.ble hh' s.size) with
      | false => simp [hc] at h
      | true =>
        simp only [hc, cond_true, Option.some.injEq] at h
        subst h
        simp only [Bool.and_eq_true] at hc
        have hb := bounds_ok (P := P) (Γ := Γ) (mx := none) (mv := none) (cap := s.size) (m := s.size) (m' := s.size) hl hh trivial false e1 e2 (by simp [optI]) (Nat.le_of_ble_eq_true hc.1) (Nat.le_of_ble_eq_true hc.2) (Nat.le_refl _) (by simp) (Nat.le_refl _) w
        exact ⟨_, by simp [Instr.sliceAt, Instr.slice, run_underlying hu, hb], .v Γ _⟩
    · simp at h
  · simp at h

theorem slice_ok {P : Program} {Γ : Ctx} {t el : TypeId} {i : TypeInfo} (hu : P.underlying t = some (.slice el)) (hi' : P.info? el = some i)
    {x r : AV} {xv : Value} (hx : RL Γ x xv)
    {lo hi mx : Option AV} {lv hv' mv : Option Value} (hl : RO Γ lo lv) (hh : RO Γ hi hv') (hm : RO Γ mx mv) (h : sliceA i.size x lo hi mx = some r) (w : World) :
    ∃ v, (Instr.sliceAt t xv lv hv' mv).run P w = .ok v w ∧ RL Γ r v := by
  simp only [sliceA] at h
  cases hmh : (mx.isSome && !hi.isSome) with
  | true => rw [hmh] at h; simp at h
  | false =>
  rw [hmh] at h
  simp only [cond_false] at h
  have hmx : mx.isSome → hi.isSome := by
    intro hms; cases hi <;> simp_all
  have at_slice : (Instr.sliceAt t xv lv hv' mv).run P w = (Instr.slice t xv lv hv' mv).run P w := by
    simp [Instr.sliceAt, run_underlying hu]
  rw [at_slice]
  split at h
  · -- a chunk's
    rename_i c off len e lb
    obtain ⟨b, off', cap, rfl, hU, ho, hln, hlb, hbk⟩ := hx.osl_inv'
    cases e1 : optI lo 0 with
    | none => simp [e1] at h
    | some l =>
    cases e2 : optI hi len with
    | none => simp [e1, e2] at h
    | some h' =>
    cases e3 : optI mx lb with
    | none => simp [e1, e2, e3] at h
    | some m =>
    simp only [e1, e2, e3] at h
    cases hc : (Nat.beq e i.size && Nat.ble l h' && Nat.ble h' m && Nat.ble m lb) with
    | false => simp [hc] at h
    | true =>
      simp only [hc, cond_true, Option.some.injEq] at h
      subst h
      simp only [Bool.and_eq_true] at hc
      have he : e = i.size := Nat.eq_of_beq_eq_true hc.1.1.1
      subst he
      have h1 := Nat.le_of_ble_eq_true hc.1.1.2
      have h2 := Nat.le_of_ble_eq_true hc.1.2
      have h3 := Nat.le_of_ble_eq_true hc.2
      have hb := bounds_ok (P := P) (Γ := Γ) (cap := cap) hl hh hm true e1 e2 e3 h1 h2 (by omega) hmx hlb w
      generalize hM : (if mx.isSome then m else cap) = M at hb
      have hMm : m ≤ M ∧ M ≤ cap := by
        rw [← hM]; split <;> omega
      refine ⟨.slice (if M = l then some ⟨b, off', none⟩ else some ⟨b, off' + l * i.size, none⟩) (h' - l) (M - l), ?_, ?_⟩
      · simp only [Instr.slice, run_underlying hu, Sem.run_bind, Result.andThen_ok, hb, run_sizeOf hi', Sem.run_pure, Option.map_some, add_none]
      · by_cases hMl : M = l
        · rw [if_pos hMl]
          exact .osl c _ _ _ _ b off' (M - l) hU (.inl (by omega)) (by omega) (by omega) ⟨hbk.1, by
            have := hbk.2
            have e : M - l = 0 := by omega
            rw [e, Nat.zero_mul, Nat.add_zero]
            have := Nat.mul_le_mul_right i.size (show l ≤ cap by omega)
            omega⟩
        · rw [if_neg hMl]
          have : off' = off := by rcases ho with h | h <;> omega
          subst this
          exact .osl c _ _ _ _ b _ (M - l) hU (.inr rfl) (by omega) (by omega) ⟨hbk.1, by
            have := hbk.2
            have e : off' + l * i.size + (M - l) * i.size = off' + M * i.size := by rw [Nat.add_assoc, ← Nat.add_mul]; congr 2; omega
            rw [e]
            have := Nat.mul_le_mul_right i.size hMm.2
            omega⟩
  · -- what stays
    rename_i len cells
    cases e1 : optI lo 0 with
    | none => simp [e1] at h
    | some l =>
    cases e2 : optI hi len with
    | none => simp [e1, e2] at h
    | some h' =>
    cases e3 : optI mx len with
    | none => simp [e1, e2, e3] at h
    | some m =>
    simp only [e1, e2, e3] at h
    cases hc : (Nat.ble l h' && Nat.ble h' m && Nat.ble m len && Nat.beq cells.length (len * i.size)) with
    | false => simp [hc] at h
    | true =>
      simp only [hc, cond_true, Option.some.injEq] at h
      subst h
      simp only [Bool.and_eq_true] at hc
      have h1 := Nat.le_of_ble_eq_true hc.1.1.1
      have h2 := Nat.le_of_ble_eq_true hc.1.1.2
      have h3 := Nat.le_of_ble_eq_true hc.1.2
      have hcl : cells.length = len * i.size := Nat.eq_of_beq_eq_true hc.2
      rcases hx.fsl_inv.fsl_inv with ⟨rfl, rfl, a, cap, rfl⟩ | ⟨b, off, cap, f, rfl, hF, hlc, hcc, hrr⟩
      · have hb := bounds_ok (P := P) (Γ := Γ) (cap := cap) hl hh hm true e1 e2 e3 h1 h2 (by omega) hmx (by omega) w
        have hl0 : l = 0 := by omega
        have hh0 : h' = 0 := by omega
        subst hl0; subst hh0
        generalize hM : (if mx.isSome then m else cap) = M at hb
        refine ⟨.slice (if M = 0 then some a else some (a.add 0)) 0 M, ?_, ?_⟩
        · simp [Instr.slice, run_underlying hu, hb, run_sizeOf hi']
        · have : (if M = 0 then some a else some (a.add 0)) = some a := by simp [Addr.add]
          rw [this]
          simpa using RL.tree (RT.fnil a M)
      · have hb := bounds_ok (P := P) (Γ := Γ) (cap := cap) hl hh hm true e1 e2 e3 h1 h2 (by omega) hmx hlc w
        generalize hM : (if mx.isSome then m else cap) = M at hb
        have hMm : m ≤ M ∧ M ≤ cap := by
          rw [← hM]; split <;> omega
        refine ⟨.slice (if M = l then some ⟨b, off, none⟩ else some ⟨b, off + l * i.size, none⟩) (h' - l) (M - l), ?_, ?_⟩
        · simp only [Instr.slice, run_underlying hu, Sem.run_bind, Result.andThen_ok, hb, run_sizeOf hi', Sem.run_pure, Option.map_some, add_none]
        · by_cases hMl : M = l
          · rw [if_pos hMl]
            have : h' - l = 0 := by omega
            rw [this, Nat.zero_mul, List.take_zero]
            exact .tree (.fnil _ _)
          · rw [if_neg hMl]
            refine .tree (.fsl b (off + l * i.size) (h' - l) (M - l) _ (fun j => f (l * i.size + j)) hF (by omega) ?_ ?_)
            · intro j a ha
              rw [List.getElem?_take] at ha
              split at ha
              · rw [List.getElem?_drop] at ha; rw [Nat.add_assoc]; exact hcc _ a ha
              · simp at ha
            · intro j a ha
              rw [List.getElem?_take] at ha
              split at ha
              · rw [List.getElem?_drop] at ha; exact hrr _ a ha
              · simp at ha
  · -- nil
    have := hx.v_inv; subst this
    split at h
    · rename_i e1 e2 e3
      simp only [Option.some.injEq] at h; subst h
      have hb := bounds_ok (P := P) (Γ := Γ) (cap := 0) hl hh hm true e1 e2 e3 (Nat.le_refl _) (Nat.le_refl _) (Nat.le_refl _) hmx (Nat.le_refl _) w
      refine ⟨.slice none 0 0, ?_, .v Γ _⟩
      have : (if mx.isSome then 0 else 0) = 0 := by split <;> rfl
      rw [this] at hb
      simp [Instr.slice, run_underlying hu, hb, run_sizeOf hi']
    · simp at h
  · simp at h

end Go.Am

/- One operation: what the interpreter tells, the machine does. -/
namespace Go.Am
set_option autoImplicit false
set_option linter.unusedSimpArgs false
set_option linter.unusedVariables false

theorem ofVal_ok (Γ : Ctx) (v : Value) : RL Γ (ofVal v) v := by
  have key : ∀ (cs : Array Value), cs.toList.length = cs.size → ∀ (j : Nat) (a : AV) (x : Value), (cs.toList.map AV.v)[j]? = some a → cs[j]? = some x → RL Γ a x := by
    intro cs _ j a x ha hx
    simp only [List.getElem?_map, Option.map_eq_some_iff] at ha
    obtain ⟨y, hy, rfl⟩ := ha
    have : cs[j]? = some y := by simpa using hy
    rw [hx] at this; injection this with this; subst this
    exact .v Γ _
  cases v with
  | agg cs => exact .agg _ cs (by simp) (key cs (by simp))
  | tuple cs => exact .tup _ cs (by simp) (key cs (by simp))
  | _ => exact .v Γ _

theorem par_eq {n k : Nat} (h1 : n % 2 = k % 2) (h2 : n / 2 = k / 2) : n = k := by omega
theorem tget_tset (tm : TM) (k n : Nat) (a : AV) : tget (tset tm k a) n = if n = k ∧ thas tm k = true then a else tget tm n := by
  induction tm generalizing k n with
  | nil => simp [tset, tget, thas]
  | one x =>
    by_cases hk : k = 0
    · subst hk
      simp only [tset, thas, Nat.beq_refl, cond_true, and_true]
      by_cases hn : n = 0
      · subst hn; simp [tget]
      · simp [tget, hn, nbeq_false hn]
    · simp [tset, thas, nbeq_false hk, tget]
  | two l r il ir =>
    by_cases hk : k % 2 = 0
    · have ek : Nat.beq (k % 2) 0 = true := by rw [hk]; rfl
      simp only [tset, thas, ek, cond_true]
      by_cases hn : n % 2 = 0
      · have en : Nat.beq (n % 2) 0 = true := by rw [hn]; rfl
        simp only [tget, en, cond_true, il]
        have : (n / 2 = k / 2) ↔ n = k := ⟨fun h => par_eq (by omega) h, fun h => by rw [h]⟩
        simp [this]
      · have en : Nat.beq (n % 2) 0 = false := nbeq_false hn
        simp only [tget, en, cond_false]
        have : n ≠ k := by rintro rfl; exact hn hk
        simp [this]
    · have ek : Nat.beq (k % 2) 0 = false := nbeq_false hk
      simp only [tset, thas, ek, cond_false]
      by_cases hn : n % 2 = 0
      · have en : Nat.beq (n % 2) 0 = true := by rw [hn]; rfl
        simp only [tget, en, cond_true]
        have : n ≠ k := by rintro rfl; exact hk hn
        simp [this]
      · have en : Nat.beq (n % 2) 0 = false := nbeq_false hn
        simp only [tget, en, cond_false, ir]
        have : (n / 2 = k / 2) ↔ n = k := ⟨fun h => par_eq (by omega) h, fun h => by rw [h]⟩
        simp [this]
theorem thas_tset (tm : TM) (k : Nat) (a : AV) : thas (tset tm k a) = thas tm := by
  induction tm generalizing k with
  | nil => rfl
  | one x => cases h : Nat.beq k 0 <;> simp only [tset, h, cond_true, cond_false] <;> rfl
  | two l r il ir =>
    funext n
    cases h : Nat.beq (k % 2) 0 <;> simp only [tset, h, cond_true, cond_false, thas, il, ir]
theorem tget_blank : ∀ (d n i : Nat), tget (blankT d n) i = aundef
  | 0, n, i => by
    simp only [blankT]
    cases Nat.beq n 0 <;> simp only [cond_true, cond_false, tget]
    cases Nat.beq i 0 <;> rfl
  | d + 1, n, i => by
    simp only [blankT]
    cases Nat.beq n 0 <;> simp only [cond_true, cond_false, tget]
    cases Nat.beq n 1 <;> simp only [cond_true, cond_false, tget, tget_blank d]
    · cases Nat.beq (i % 2) 0 <;> rfl
    · cases Nat.beq i 0 <;> rfl
theorem thas_blank : ∀ (d n i : Nat), n ≤ 2 ^ d → thas (blankT d n) i = decide (i < n)
  | 0, n, i, h => by
    simp only [blankT]
    by_cases hn : n = 0
    · subst hn; simp [thas]
    · have : n = 1 := by simp at h; omega
      subst this
      simp only [nbeq_false hn, cond_false, thas]
      by_cases hi : i = 0
      · subst hi; rfl
      · rw [nbeq_false hi]; simp; omega
  | d + 1, n, i, h => by
    simp only [blankT]
    by_cases hn : n = 0
    · subst hn; simp [thas]
    · simp only [nbeq_false hn, cond_false]
      by_cases hn1 : n = 1
      · subst hn1
        simp only [Nat.beq_refl, cond_true, thas]
        by_cases hi : i = 0
        · subst hi; rfl
        · rw [nbeq_false hi]; simp; omega
      · simp only [nbeq_false hn1, cond_false, thas]
        rw [Nat.pow_succ] at h
        rw [thas_blank d _ _ (by omega), thas_blank d _ _ (by omega)]
        by_cases hi : i % 2 = 0
        · have : Nat.beq (i % 2) 0 = true := by rw [hi]; rfl
          rw [this, cond_true]
          congr 1; apply propext; omega
        · rw [nbeq_false hi, cond_false]
          congr 1; apply propext; omega

/-- The temporaries. -/
structure TR (Γ : Ctx) (tm : TM) (a : Act) : Prop where
  get : ∀ i, RL Γ (tget tm i) (a.tmps.getD i undef)
  has : ∀ i, thas tm i = decide (i < a.tmps.size)

theorem TR.imp {Γ Γ' : Ctx} {tm : TM} {a : Act} (h : TR Γ tm a) (k : ∀ a x, RL Γ a x → RL Γ' a x) : TR Γ' tm a := ⟨fun i => k _ _ (h.get i), h.has⟩
theorem TR.congr {Γ : Ctx} {tm tm' : TM} {a : Act} (h : TR Γ tm a) (hg : ∀ i, tget tm i = tget tm' i) (hh : thas tm = thas tm') : TR Γ tm' a :=
  ⟨fun i => by rw [← hg]; exact h.get i, fun i => by rw [← hh]; exact h.has i⟩
theorem TR.set {Γ : Ctx} {tm : TM} {a : Act} (h : TR Γ tm a) {k : Nat} {r : AV} {v : Value} (hr : RL Γ r v) (df : List Deferred) : TR Γ (tset tm k r) { tmps := a.tmps.setIfInBounds k v, defers := df } := by
  refine ⟨fun i => ?_, fun i => ?_⟩
  · rw [tget_tset]
    have hk := h.has k
    by_cases hik : i = k
    · subst hik
      by_cases hlt : i < a.tmps.size
      · simp only [hk, hlt, decide_true, and_self, if_true]
        simpa [hlt] using hr
      · simp only [hk, hlt, decide_false, and_false, if_false, Bool.false_eq_true]
        have := h.get i
        simpa [hlt] using this
    · simp only [hik, false_and, if_false]
      have := h.get i
      simpa [Array.getElem?_setIfInBounds_ne (Ne.symm hik)] using this
  · rw [thas_tset, h.has i]; simp
theorem thas_putT : ∀ (as : List AV) (tm : TM) (k : Nat), thas (putT tm k as) = thas tm
  | [], tm, k => rfl
  | a :: r, tm, k => by simp only [putT]; rw [thas_putT r, thas_tset]
theorem tget_putT : ∀ (as : List AV) (tm : TM) (k i : Nat), tget (putT tm k as) i = if k ≤ i ∧ thas tm i = true then (as[i - k]?).getD (tget tm i) else tget tm i
  | [], tm, k, i => by simp [putT]
  | a :: r, tm, k, i => by
    simp only [putT]
    rw [tget_putT r, thas_tset, tget_tset]
    by_cases hi : thas tm i = true
    · by_cases hik : i = k
      · subst hik
        simp [hi]; omega
      · by_cases hlt : k ≤ i
        · have : i - k = (i - (k + 1)) + 1 := by omega
          simp [hi, hik, hlt, show k + 1 ≤ i by omega, this]
        · simp [hik, hlt, show ¬ k + 1 ≤ i by omega]
    · simp only [hi, and_false, if_false, Bool.false_eq_true]
      by_cases hik : i = k
      · subst hik; simp [hi]
      · simp [hik]
theorem init_ok {Γ : Ctx} {args : List AV} {vs : Array Value} (hargs : All2 (RL Γ) args vs.toList) {n : Nat} (hle : args.length ≤ n) (hn : n ≤ 4096) (df : List Deferred) : TR Γ (padA args n) { tmps := vs ++ Array.replicate (n - vs.size) undef, defers := df } := by
  have hl : args.length = vs.size := by simpa using hargs.1
  have hth : ∀ i, thas (blankT 12 n) i = decide (i < n) := fun i => thas_blank 12 n i (by omega)
  refine ⟨fun i => ?_, fun i => ?_⟩
  · simp only [padA, tget_putT, hth, tget_blank, Nat.zero_le, true_and, Nat.sub_zero]
    by_cases hi : i < args.length
    · have h1 : args[i]? = some args[i] := by simp [hi]
      have h2 : i < vs.size := by omega
      have := hargs.2 i args[i] vs[i] h1 (by simp [h2])
      simp only [show i < n by omega, decide_true, if_true, h1, Option.getD_some]
      have e : (vs ++ Array.replicate (n - vs.size) undef).getD i undef = vs[i] := by
        simp [Array.getElem?_append, h2]
      rw [e]; exact this
    · have h1 : args[i]? = none := by simp; omega
      have e : (vs ++ Array.replicate (n - vs.size) undef).getD i undef = undef := by
        simp only [Array.getD_eq_getD_getElem?, Array.getElem?_append, show ¬ i < vs.size by omega, if_false, Array.getElem?_replicate]
        split <;> rfl
      rw [e, h1]
      simp only [Option.getD_none, ite_self]
      exact .v Γ _
  · simp only [padA, thas_putT, hth, Array.size_append, Array.size_replicate]
    congr 1; apply propext; omega

theorem compO_ok {Γ : Ctx} {tm : TM} {a : Act} (h : TR Γ tm a) {x : Operand} {ax : AO} (hc : compO x = some ax) : RL Γ (ax.ev tm) (a.eval x) := by
  cases x with
  | tmp t => simp [compO] at hc; subst hc; exact h.get t
  | const v => simp [compO] at hc; subst hc; exact ofVal_ok Γ v
  | global g => simp [compO] at hc
  | func g => simp [compO] at hc; subst hc; exact .fn g [] #[] rfl (fun j a x ha => by simp at ha)
theorem compOO_ok {Γ : Ctx} {tm : TM} {a : Act} (h : TR Γ tm a) {x : Option Operand} {ax : Option AO} (hc : compOO x = some ax) : RO Γ (ax.map (·.ev tm)) (x.map a.eval) := by
  cases x with
  | none => simp [compOO] at hc; subst hc; trivial
  | some x =>
    simp only [compOO, Option.map_eq_some_iff] at hc
    obtain ⟨y, hy, rfl⟩ := hc
    exact compO_ok h hy
theorem mapO_all2 {Γ : Ctx} {tm : TM} {a : Act} (h : TR Γ tm a) : ∀ {xs : List Operand} {as : List AO}, mapO compO xs = some as → All2 (RL Γ) (as.map (·.ev tm)) (xs.map a.eval)
  | [], as, hc => by simp [mapO] at hc; subst hc; exact .nil _
  | x :: xs, as, hc => by
    simp only [mapO] at hc
    cases hx : compO x with
    | none => simp [hx] at hc
    | some y =>
      cases hr : mapO compO xs with
      | none => simp [hx, hr] at hc
      | some ys =>
        simp only [hx, hr, Option.some.injEq] at hc
        subst hc
        exact .cons (compO_ok h hx) (mapO_all2 h hr)
theorem compOs_ok {Γ : Ctx} {tm : TM} {a : Act} (h : TR Γ tm a) {xs : Array Operand} {as : List AO} (hc : compOs xs = some as) : All2 (RL Γ) (as.map (·.ev tm)) (xs.map a.eval).toList := by
  have := mapO_all2 h hc
  simpa using this

theorem zeroL_ok {P : Program} {t : TypeId} {zs : List AV} (h : zeroL P t = some zs) : ∃ i z, P.info? t = some i ∧ i.zero = some z ∧ z.cells.size = i.size ∧ zs = z.cells.toList.map .v := by
  unfold zeroL at h
  cases hi : P.info? t with
  | none => simp [hi] at h
  | some i =>
    cases hz : i.zero with
    | none => simp [hi, hz] at h
    | some z =>
      simp only [hi, hz] at h
      split at h
      · rename_i hs
        simp only [Option.some.injEq] at h
        exact ⟨i, z, rfl, hz, hs, h.symm⟩
      · simp at h

/-- What an operation that is no call of a function comes to. -/
def Does (P : Program) (Γ : Ctx) (id : Nat) (s : Sem Next) (r : AV) (H' : Heap) : Prop :=
  ∃ nx Γ', s.run P Γ.w = .ok nx Γ'.w ∧ Γ'.H = H' ∧ Ev Γ Γ' ∧ HRel Γ' ∧ (∀ c, Γ'.U c → Γ.U c ∨ c = id) ∧ ((∃ v, nx = .value v ∧ RL Γ' r v) ∨ (nx = .skip ∧ RL Γ' r undef))

theorem Does.of_val {P : Program} {Γ : Ctx} {id : Nat} {s : Sem Value} {r : AV} {H' : Heap} (h : Val P Γ id s H' r) : Does P Γ id (do pure (.value (← s))) r H' := by
  obtain ⟨v, Γ', h1, h2, h3, h4, h5, h6⟩ := h
  exact ⟨.value v, Γ', by simp [h1], h2, h3, h4, h6, .inl ⟨v, rfl, h5⟩⟩
theorem Does.same {P : Program} {Γ : Ctx} (hR : HRel Γ) {id : Nat} {s : Sem Value} {r : AV} (h : ∃ v, s.run P Γ.w = .ok v Γ.w ∧ RL Γ r v) : Does P Γ id (do pure (.value (← s))) r Γ.H := by
  obtain ⟨v, h1, h2⟩ := h
  exact .of_val (.same hR h1 h2)
theorem Does.pure {P : Program} {Γ : Ctx} (hR : HRel Γ) {id : Nat} {v : Value} {r : AV} (h : RL Γ r v) : Does P Γ id (Pure.pure (.value v)) r Γ.H :=
  ⟨.value v, Γ, rfl, rfl, Ev.refl Γ, hR, fun _ h => .inl h, .inl ⟨v, rfl, h⟩⟩

theorem out_some {H H' : Heap} {o : Option AV} {r : AV} (h : out H o = some (.val r H')) : o = some r ∧ H' = H := by
  cases o with
  | none => simp [out] at h
  | some a => simp only [out, Option.map_some, Option.some.injEq, Out.val.injEq] at h; exact ⟨by rw [h.1], h.2.symm⟩
theorem out_call {H : Heap} {o : Option AV} {g : Nat} {as : List AV} : out H o ≠ some (.call g as) := by
  cases o <;> simp [out]

theorem parts_ok {Γ : Ctx} {tm : TM} {a : Act} (h : TR Γ tm a) {place : Nat → Option (Nat × Nat)} : ∀ {ps : List (Nat × Operand)} {as : List (Nat × Nat × AO)}, compParts place ps = some as →
    (as.map fun p => (p.1, p.2.1, (p.2.2.ev tm).cells)).length = (ps.map fun p => (p.1, a.eval p.2)).length ∧
    ∀ (j : Nat) (p : Nat × Nat × List AV) (q : Nat × Value), (as.map fun p => (p.1, p.2.1, (p.2.2.ev tm).cells))[j]? = some p → (ps.map fun p => (p.1, a.eval p.2))[j]? = some q →
      place q.1 = some (p.1, p.2.1) ∧ All2 (RL Γ) p.2.2 q.2.cells.toList
  | [], as, hc => by simp [compParts] at hc; subst hc; exact ⟨rfl, fun j p q hp => by simp at hp⟩
  | (i, x) :: ps, as, hc => by
    simp only [compParts] at hc
    split at hc
    · rename_i off sz ax l h1 h2 h3
      simp only [Option.some.injEq] at hc
      subst hc
      obtain ⟨k1, k2⟩ := parts_ok h h3
      refine ⟨by simpa using k1, fun j p q hp hq => ?_⟩
      cases j with
      | zero =>
        simp at hp hq
        subst hp; subst hq
        exact ⟨h1, (compO_ok h h2).cells⟩
      | succ j => exact k2 j p q (by simpa using hp) (by simpa using hq)
    · simp at hc

end Go.Am

/- One operation, kind by kind. -/
namespace Go.Am
set_option autoImplicit false
set_option linter.unusedSimpArgs false
set_option linter.unusedVariables false

section
variable {P : Program} {Γ : Ctx} (hR : HRel Γ) {id : Nat} (hid : ¬ Γ.U id) {tm : TM} {a : Act} (ht : TR Γ tm a) {r : AV} {H' : Heap} {ao : AOp}

include hR ht in
theorem does_bin {b : BinOp} {t : TypeId} {x y : Operand} (hc : compBin P b t x y = some ao) (h : aop ao tm id Γ.H = some (.val r H')) :
    Does P Γ id (do pure (.value (← (do eqGuard b t x y (a.eval x) (a.eval y); binOp b t (a.eval x) (a.eval y) : Sem Value)))) r H' := by
  unfold compBin at hc
  split at hc
  case h_2 => simp at hc
  rename_i d ax ay hu hx hy
  have rx := compO_ok ht hx
  have ry := compO_ok ht hy
  have plain : ∀ {c : BinOp}, ao = .bin c ax ay → c = b → Does P Γ id (do pure (.value (← (do eqGuard b t x y (a.eval x) (a.eval y); binOp b t (a.eval x) (a.eval y) : Sem Value)))) r H' := by
    intro c e ec
    subst e; subst ec
    simp only [aop] at h
    split at h
    · rename_i u v e1 e2
      obtain ⟨h1, rfl⟩ := out_some h
      obtain ⟨z, hz, rfl⟩ := Option.map_eq_some_iff.1 h1
      rw [e1] at rx; rw [e2] at ry
      rw [rx.v_inv, ry.v_inv]
      exact Does.same hR ⟨z, bin_ok hz Γ.w, .v Γ z⟩
    · simp at h
  have bval : ∀ {c : Bool} {w : World} {s : Sem Value}, s.run P w = .ok (.bool c) w → s.run P w = .ok (.bool c) w := fun h => h
  cases d with
  | int k => simp only [Option.some.injEq] at hc; exact plain hc.symm rfl
  | string => simp only [Option.some.injEq] at hc; exact plain hc.symm rfl
  | bool =>
    have go : ∀ (neg : Bool), ao = .beq neg ax ay → b = (if neg then .neq else .eql) → Does P Γ id (do pure (.value (← (do eqGuard b t x y (a.eval x) (a.eval y); binOp b t (a.eval x) (a.eval y) : Sem Value)))) r H' := by
      intro neg e eb
      subst e; subst eb
      simp only [aop] at h
      split at h
      · rename_i p q e1 e2
        simp only [Option.some.injEq, Out.val.injEq] at h
        obtain ⟨rfl, rfl⟩ := h
        rw [e1] at rx; rw [e2] at ry
        rw [rx.v_inv, ry.v_inv]
        obtain ⟨k1, k2⟩ := beq_ok (P := P) hu p q x y Γ.w
        cases neg
        · exact Does.same hR ⟨_, k1, .v Γ _⟩
        · exact Does.same hR ⟨_, k2, .v Γ _⟩
      · simp at h
    cases b <;> simp only [Option.some.injEq] at hc <;> first | (simp at hc; done) | skip
    · exact go false hc.symm rfl
    · exact go true hc.symm rfl
  | struct fs =>
    cases hp : plainN P 100 t with
    | none => simp [hp] at hc
    | some ks =>
      simp only [hp] at hc
      split at hc
      · rename_i hg
        have go : ∀ (neg : Bool), ao = .eqAgg neg ks ax ay → b = (if neg then .neq else .eql) → Does P Γ id (do pure (.value (← (do eqGuard b t x y (a.eval x) (a.eval y); binOp b t (a.eval x) (a.eval y) : Sem Value)))) r H' := by
          intro neg e eb
          subst e; subst eb
          simp only [aop] at h
          split at h
          · rename_i p q e1 e2
            obtain ⟨h1, rfl⟩ := out_some h
            obtain ⟨z, hz, rfl⟩ := Option.map_eq_some_iff.1 h1
            rw [e1] at rx; rw [e2] at ry
            obtain ⟨vs, ev, l1, g1⟩ := rx.agg_inv
            obtain ⟨us, eu, l2, g2⟩ := ry.agg_inv
            rw [ev, eu]
            obtain ⟨k1, k2⟩ := eqAgg_ok (P := P) hu hp hg (All2.of_arr l1 g1) (All2.of_arr l2 g2) hz x y Γ.w
            cases neg
            · exact Does.same hR ⟨_, k1, .v Γ _⟩
            · exact Does.same hR ⟨_, k2, .v Γ _⟩
          · simp at h
        cases b <;> simp only [Option.some.injEq] at hc <;> first | (simp at hc; done) | skip
        · exact go false hc.symm rfl
        · exact go true hc.symm rfl
      · simp at hc
  | slice e =>
    have go : ∀ (neg : Bool), isNilS y = true → ao = .eqNilS neg ax → b = (if neg then .neq else .eql) → Does P Γ id (do pure (.value (← (do eqGuard b t x y (a.eval x) (a.eval y); binOp b t (a.eval x) (a.eval y) : Sem Value)))) r H' := by
      intro neg hy' e' eb
      subst e'; subst eb
      have hyc : y = .const (.slice none 0 0) := by
        unfold isNilS at hy'; split at hy' <;> first | rfl | simp at hy'
      subst hyc
      have run : ∀ p n c, (do eqGuard (if neg then .neq else .eql) t x (.const (.slice none 0 0)) (.slice p n c) (.slice none 0 0); binOp (if neg then .neq else .eql) t (.slice p n c) (.slice none 0 0) : Sem Value).run P Γ.w = .ok (.bool (if neg then !p.isNone else p.isNone)) Γ.w := by
        intro p n c
        rw [eqGuard_at_slice]
        cases neg
        · simpa using Lib.run_eql_slice_nil Γ.w t e p n c 0 0 hu
        · simpa using run_neq_slice_nil_any Γ.w t e p n c 0 0 hu
      simp only [aop] at h
      split at h <;> first | (simp at h; done) | (simp only [Option.some.injEq, Out.val.injEq] at h; obtain ⟨rfl, rfl⟩ := h; rename_i e1; rw [e1] at rx)
      · rw [rx.v_inv]
        refine Does.same hR ⟨_, run _ _ _, ?_⟩
        cases neg <;> exact .v Γ _
      · obtain ⟨bb, o', cc, ev, _⟩ := rx.osl_inv
        rw [ev]
        refine Does.same hR ⟨_, run _ _ _, ?_⟩
        cases neg <;> exact .v Γ _
      · rcases rx.fsl_inv.fsl_inv with ⟨_, _, p, cc, ev⟩ | ⟨bb, o', cc, f, ev, _⟩ <;> rw [ev] <;> refine Does.same hR ⟨_, run _ _ _, ?_⟩ <;> cases neg <;> exact .v Γ _
    cases b <;> simp only at hc <;> first | (simp at hc; done) | skip
    · cases hn : isNilS y <;> simp [hn] at hc; exact go false hn hc.symm rfl
    · cases hn : isNilS y <;> simp [hn] at hc; exact go true hn hc.symm rfl
  | pointer e =>
    have go : ∀ (neg : Bool), isNilP y = true → ao = .eqNilP neg ax → b = (if neg then .neq else .eql) → Does P Γ id (do pure (.value (← (do eqGuard b t x y (a.eval x) (a.eval y); binOp b t (a.eval x) (a.eval y) : Sem Value)))) r H' := by
      intro neg hy' e' eb
      subst e'; subst eb
      have hyc : y = .const (.pointer none) := by
        unfold isNilP at hy'; split at hy' <;> first | rfl | simp at hy'
      subst hyc
      have hpe : P.underlying t = some (.pointer (P.pointee t)) := by simp [Program.pointee, hu]
      have run : ∀ p, (do eqGuard (if neg then .neq else .eql) t x (.const (.pointer none)) (.pointer p) (.pointer none); binOp (if neg then .neq else .eql) t (.pointer p) (.pointer none) : Sem Value).run P Γ.w = .ok (.bool (if neg then !p.isNone else p.isNone)) Γ.w := by
        intro p
        rw [eqGuard_at_pointer]
        cases neg
        · simpa using run_eql_pointer_nil Γ.w t p hpe
        · simpa using run_neq_pointer_nil Γ.w t p hpe
      simp only [aop] at h
      split at h <;> first | (simp at h; done) | (simp only [Option.some.injEq, Out.val.injEq] at h; obtain ⟨rfl, rfl⟩ := h; rename_i e1; rw [e1] at rx)
      · rw [rx.v_inv]
        refine Does.same hR ⟨_, run _, ?_⟩
        cases neg <;> exact .v Γ _
      · obtain ⟨bb, ev, _⟩ := rx.ptr_inv
        rw [ev]
        refine Does.same hR ⟨_, run _, ?_⟩
        cases neg <;> exact .v Γ _
      · obtain ⟨bb, o', f, ev, _⟩ := rx.eptr_inv.eptr_inv
        rw [ev]
        refine Does.same hR ⟨_, run _, ?_⟩
        cases neg <;> exact .v Γ _
    cases b <;> simp only at hc <;> first | (simp at hc; done) | skip
    · cases hn : isNilP y <;> simp [hn] at hc; exact go false hn hc.symm rfl
    · cases hn : isNilP y <;> simp [hn] at hc; exact go true hn hc.symm rfl
  | _ => simp at hc
end
end Go.Am

namespace Go.Am
set_option autoImplicit false
set_option linter.unusedSimpArgs false
set_option linter.unusedVariables false

theorem bytesOf_ok {Γ : Ctx} : ∀ {cs : List AV} {vs : List Value} {bs : List UInt8}, All2 (RL Γ) cs vs → bytesOf cs = some bs → ∃ ns : List Int, vs = ns.map (Value.int .u8) ∧ bs = ns.map (fun n => UInt8.ofNat n.toNat)
  | [], vs, bs, h, hb => by
    have := h.1; simp at this
    rw [List.eq_nil_of_length_eq_zero this.symm]
    simp [bytesOf] at hb; subst hb
    exact ⟨[], rfl, rfl⟩
  | c :: cs, vs, bs, h, hb => by
    obtain ⟨v, vs', rfl, hv, hvs⟩ := h.uncons
    cases c with
    | v x =>
      have := hv.v_inv; subst this
      cases v with
      | int k n =>
        cases k <;> simp only [bytesOf] at hb <;> first | (simp at hb; done) | skip
        obtain ⟨l, hl, rfl⟩ := Option.map_eq_some_iff.1 hb
        obtain ⟨ns, e1, e2⟩ := bytesOf_ok hvs hl
        exact ⟨n :: ns, by simp [e1], by simp [e2]⟩
      | _ => simp [bytesOf] at hb
    | _ => simp [bytesOf] at hb

/-- The bytes of a slice, as a string. -/
theorem b2s_ok {P : Program} {Γ : Ctx} (hR : HRel Γ) {src dst e : TypeId} (hs : P.underlying src = some (.slice e)) (he : P.underlying e = some (.int .u8)) (hd : P.underlying dst = some .string)
    {x : AV} {xv : Value} (hx : RL Γ x xv) {n : Nat} (hn : lenA x = some n) {cs : List AV} (hc : elemsA Γ.H 1 n x = some cs) {bs : List UInt8} (hb : bytesOf cs = some bs) (hxs : ∀ s, x ≠ .v (.string s)) :
    (convert src dst xv).run P Γ.w = .ok (.string ⟨bs.toArray⟩) Γ.w := by
  obtain ⟨arr, hf, hall⟩ := elems_ok (P := P) hR hc hx
  obtain ⟨ns, e1, e2⟩ := bytesOf_ok hall hb
  have fin : ∀ (p : Addr) (m c : Nat), xv = .slice (some p) m c → m = n → (convert src dst xv).run P Γ.w = .ok (.string ⟨bs.toArray⟩) Γ.w := by
    intro p m c e hm
    subst e; subst hm
    have hl : (loadCells p m).run P Γ.w = .ok (ns.map (Value.int .u8)).toArray Γ.w := by
      have : (Builtin.firstCells 1 m (.slice (some p) m c)).run P Γ.w = (loadCells p m).run P Γ.w := by simp [Builtin.firstCells]
      rw [← this, hf, ← e1]
    rw [run_convert_bytes_string Γ.w src dst e _ m c hs he hd, run_bytesToString Γ.w _ m c ns hl, foldl_push_bytes]
    subst e2
    simp [ByteArray.empty, ByteArray.emptyWithCapacity]
    rfl
  cases x with
  | osl c off len e lb =>
    obtain ⟨b, off', cap, rfl, _⟩ := hx.osl_inv
    simp [lenA] at hn
    exact fin _ _ _ rfl hn
  | fsl len cells =>
    simp [lenA] at hn
    rcases hx.fsl_inv.fsl_inv with ⟨rfl, _, a, cap, rfl⟩ | ⟨b, off, cap, f, rfl, _⟩
    · exact fin _ _ _ rfl hn
    · exact fin _ _ _ rfl hn
  | v y =>
    have := hx.v_inv; subst this
    cases xv with
    | slice p m c =>
      cases p with
      | some p => simp [elemsA] at hc
      | none =>
        simp [lenA] at hn
        subst hn
        simp only [elemsA] at hc
        cases hz : Nat.beq m 0 with
        | false => simp [hz] at hc
        | true =>
          simp [hz] at hc; subst hc
          simp [bytesOf] at hb; subst hb
          rw [run_convert_bytes_nil Γ.w src e hs he m c dst hd]
          rfl
    | string s => exact absurd rfl (hxs s)
    | _ => simp [lenA] at hn
  | _ => simp [lenA] at hn

theorem foldM_ok {P : Program} {Γ : Ctx} (mx : Bool) : ∀ {xs : List AV} {vs : List Value} {k : IntKind} {n : Int} {r : AV}, All2 (RL Γ) xs vs → foldM mx k n xs = some r → ∃ v, r = .v v ∧ (vs.foldlM (bif mx then Builtin.max2 else Builtin.min2) (.int k n) : Sem Value).run P Γ.w = .ok v Γ.w
  | [], vs, k, n, r, h, hr => by
    have := h.1; simp at this
    rw [List.eq_nil_of_length_eq_zero this.symm]
    simp [foldM] at hr; subst hr
    exact ⟨_, rfl, by simp⟩
  | x :: xs, vs, k, n, r, h, hr => by
    obtain ⟨v, vs', rfl, hv, hvs⟩ := h.uncons
    cases x with
    | v y =>
      have := hv.v_inv; subst this
      cases v with
      | int k' m =>
        simp only [foldM] at hr
        obtain ⟨u, hu, hrun⟩ := foldM_ok (P := P) mx hvs hr
        refine ⟨u, hu, ?_⟩
        cases mx
        · simp only [cond_false] at hrun ⊢
          simp [List.foldlM_cons, Builtin.min2, hrun]
        · simp only [cond_true] at hrun ⊢
          simp [List.foldlM_cons, Builtin.max2, hrun]
      | _ => simp [foldM] at hr
    | _ => simp [foldM] at hr

end Go.Am

namespace Go.Am
set_option autoImplicit false
set_option linter.unusedSimpArgs false
set_option linter.unusedVariables false
set_option maxHeartbeats 1000000

theorem run_buildSlice {P : Program} {t e : TypeId} {i : TypeInfo} {z : Value} {n : Nat} (hu : P.underlying t = some (.slice e)) (hi : P.info? e = some i) (hz : i.zero = some z) (hzs : z.cells.size = i.size)
    (hsz : n * i.size ≤ 16777216) {parts : Array (Nat × Value)} {cells : Array Value}
    (hf : Instr.fill (fun k => some (k * i.size, i.size)) ((Array.range (n * z.cells.size)).map (z.cells[· % z.cells.size]!)) parts.toList = some cells) (w : World) :
    (Instr.buildSlice t n parts).run P w = .ok (.slice (some ⟨w.heap.size, 0, none⟩) n n) (w.alloc (.cells cells e (0, 0))) := by
  have hsz' : ¬ (16777216 < n * i.size) := by omega
  rw [hzs] at hf
  by_cases h0 : n * i.size = 0
  · have e0 : ∀ (g : Nat → Value), (Array.range (n * i.size)).map g = #[] := by intro g; simp [h0]
    rw [e0] at hf
    unfold Instr.buildSlice
    have er : Array.range 0 = #[] := rfl
    simp [run_underlying hu, run_sizeOf hi, h0, er, hf, newRow]
  · unfold Instr.buildSlice
    have h0' : ¬ (n = 0 ∨ i.size = 0) := by rw [← Nat.mul_eq_zero]; exact h0
    simp only [run_underlying hu, Sem.run_bind, Result.andThen_ok, run_sizeOf hi, Sem.run_ite, if_neg h0, run_zeroValue hi hz, Sem.run_pure]
    simp [hsz', newRow, hzs, hf]

theorem fillA_len : ∀ {parts : List (Nat × Nat × List AV)} {cs r : List AV}, fillA cs parts = some r → r.length = cs.length
  | [], cs, r, h => by simp [fillA] at h; subst h; rfl
  | (off, sz, xs) :: ps, cs, r, h => by
    simp only [fillA] at h
    cases hc : (Nat.beq xs.length sz && Nat.ble (off + sz) cs.length) with
    | false => simp [hc] at h
    | true =>
      simp only [hc, cond_true] at h
      simp only [Bool.and_eq_true] at hc
      have h1 : xs.length = sz := Nat.eq_of_beq_eq_true hc.1
      have h2 : off + sz ≤ cs.length := Nat.le_of_ble_eq_true hc.2
      rw [fillA_len h, splice_length (by omega)]
theorem repA_len (z : List AV) : ∀ n, (repA z n).length = n * z.length
  | 0 => by simp [repA]
  | n + 1 => by rw [repA, List.length_append, repA_len z n, Nat.add_mul]; omega

theorem run_mkslice {P : Program} {t e : TypeId} {i : TypeInfo} {z : Value} {k1 k2 : IntKind} {l c : Nat} (hu : P.underlying t = some (.slice e)) (hi : P.info? e = some i) (hz : i.zero = some z) (hzs : z.cells.size = i.size)
    (hlc : l ≤ c) (hb : i.bytes * c ≤ 140737488355328) (hm : c ≤ 140737488355328) {w w' : World} {ad : Addr}
    (hn : (newRow e ((Array.range (c * i.size)).map (z.cells[· % i.size]!))).run P w = .ok ad w') :
    (Instr.makeSlice t (.int k1 l) (.int k2 c)).run P w = .ok (.slice (some ad) l c) w' := by
  have w1 : IntKind.i64.wrap (l : Int) = l := IntWalk.i64_in _ (by omega)
  have w2 : IntKind.i64.wrap (c : Int) = c := IntWalk.i64_in _ (by omega)
  have hbi : ((i.bytes : Int) * (c : Int)) ≤ 140737488355328 := by
    have : ((i.bytes * c : Nat) : Int) ≤ ((140737488355328 : Nat) : Int) := Int.ofNat_le.2 hb
    rwa [Int.natCast_mul] at this
  have hcap : (decide ((c : Int) < 0) || decide ((i.bytes : Int) * (c : Int) > 2 ^ 48)) = false := by
    have h1 : ¬ ((c : Int) < 0) := by omega
    have h2 : ¬ ((i.bytes : Int) * (c : Int) > 2 ^ 48) := by omega
    rw [decide_eq_false h1, decide_eq_false h2]; rfl
  have t2 : ¬ ((c : Int) < (l : Int)) := by omega
  have hbr : ((decide ((c : Int) < 0) || decide ((i.bytes : Int) * (c : Int) > 2 ^ 48)) || decide ((l : Int) < 0) || decide ((l : Int) > (c : Int))) = false := by
    rw [hcap, decide_eq_false (show ¬ (l : Int) < 0 by omega), decide_eq_false (show ¬ (l : Int) > (c : Int) by omega)]; rfl
  unfold Instr.makeSlice
  by_cases h0 : c * i.size = 0
  · have e0 : ∀ (g : Nat → Value), (Array.range (c * i.size)).map g = #[] := by intro g; simp [h0]
    rw [e0] at hn
    simp only [Sem.run_bind, run_underlying hu, Result.andThen_ok, asInt, asIntOf, Sem.run_pure, run_typeInfo hi, w1, w2, hbr, Bool.false_eq_true, if_false, Sem.run_ite, run_askRoom, Int.toNat_natCast, run_sizeOf hi, h0, if_true]
    have e1 : ∀ (g : Nat → Value), (Array.range 0).map g = #[] := by intro g; simp
    rw [e1, hn]
    rfl
  · simp only [Sem.run_bind, run_underlying hu, Result.andThen_ok, asInt, asIntOf, Sem.run_pure, run_typeInfo hi, w1, w2, hbr, Bool.false_eq_true, if_false, Sem.run_ite, run_askRoom, Int.toNat_natCast, run_sizeOf hi, h0, run_zeroValue hi hz, hzs, hn]

theorem dlen_len {a : AV} {n : Nat} (h : dlenA a = some n) : lenA a = some n := by
  unfold dlenA at h
  split at h
  · simp at h
  · exact h
theorem args1 {x : AO} {xs : Array Operand} (h : compOs xs = some [x]) : ∃ y, xs = #[y] ∧ compO y = some x := by
  obtain ⟨l⟩ := xs
  simp only [compOs] at h
  match l, h with
  | [], h => simp [mapO] at h
  | [y], h =>
    simp only [mapO] at h
    cases hy : compO y with
    | none => simp [hy] at h
    | some z => simp [hy] at h; exact ⟨y, rfl, by rw [hy, h]⟩
  | y :: y2 :: r, h =>
    simp only [mapO] at h
    cases h1 : compO y <;> simp only [h1] at h <;> first | (simp at h; done) | skip
    cases h2 : compO y2 <;> simp only [h2] at h <;> first | (simp at h; done) | skip
    cases h3 : mapO compO r <;> simp [h3] at h
theorem args2 {x x2 : AO} {xs : Array Operand} (h : compOs xs = some [x, x2]) : ∃ y y2, xs = #[y, y2] ∧ compO y = some x ∧ compO y2 = some x2 := by
  obtain ⟨l⟩ := xs
  simp only [compOs] at h
  cases l with
  | nil => simp [mapO] at h
  | cons y r =>
    simp only [mapO] at h
    cases h1 : compO y with
    | none => simp [h1] at h
    | some z =>
      simp only [h1] at h
      cases h2 : mapO compO r with
      | none => simp [h2] at h
      | some l2 =>
        simp only [h2, Option.some.injEq, List.cons.injEq] at h
        obtain ⟨rfl, rfl⟩ := h
        obtain ⟨y2, e, hy2⟩ := args1 (xs := ⟨r⟩) (x := x2) (by simpa [compOs] using h2)
        exact ⟨y, y2, by simpa using congrArg Array.toList e, h1, hy2⟩
theorem ats1 {t : TypeId} {ts : Array TypeId} (h : ts.toList = [t]) : ts = #[t] := by
  obtain ⟨l⟩ := ts; simp at h; subst h; rfl
theorem ats2 {t u : TypeId} {ts : Array TypeId} (h : ts.toList = [t, u]) : ts = #[t, u] := by
  obtain ⟨l⟩ := ts; simp at h; subst h; rfl

theorem does_builtin {P : Program} {Γ : Ctx} (hR : HRel Γ) {id : Nat} (hid : ¬ Γ.U id) {tm : TM} {a : Act} (ht : TR Γ tm a) {b : Builtin} {args : Array Operand} {ats : Array TypeId} {ty : TypeId} {consts : Array Bool}
    {ao : AOp} (hc : compBuiltin P b args ats = some ao) {r : AV} {H' : Heap} (h : aop ao tm id Γ.H = some (.val r H')) : Does P Γ id (builtin b ats ty consts (args.map a.eval)) r H' := by
  unfold compBuiltin at hc
  split at hc
  · -- len
    rename_i x t hx hts
    obtain ⟨y, rfl, hy⟩ := args1 hx
    have := ats1 hts; subst this
    have rx := compO_ok ht hy
    split at hc
    · rename_i hu
      simp only [Option.some.injEq] at hc; subst hc
      simp only [aop] at h
      split at h
      · rename_i q e1
        simp only [Option.some.injEq, Out.val.injEq] at h
        obtain ⟨rfl, rfl⟩ := h
        rw [e1] at rx
        have e := rx.v_inv
        exact Does.same hR ⟨_, by simp [e, Builtin.len_, run_underlying hu, goInt], .v Γ _⟩
      · simp at h
    · rename_i el hu
      simp only [Option.some.injEq] at hc; subst hc
      simp only [aop] at h
      generalize x.ev tm = X at h rx
      have go : ∀ (n : Nat), lenA X = some n → (∃ p c, a.eval y = .slice p n c) → r = .v (.int .i64 n) → H' = Γ.H → Does P Γ id (builtin .len #[t] ty consts (#[y].map a.eval)) r H' := by
        intro n _ ⟨p, c, e⟩ e2 e3
        subst e2; subst e3
        exact Does.same hR ⟨_, by simp [e, Builtin.len_, run_underlying hu, goInt], .v Γ _⟩
      have tail : out Γ.H ((lenA X).map fun (n : Nat) => .v (.int .i64 n)) = some (.val r H') → (∀ (n : Nat), lenA X = some n → ∃ p c, a.eval y = .slice p n c) → Does P Γ id (builtin .len #[t] ty consts (#[y].map a.eval)) r H' := by
        intro h' hs
        obtain ⟨h1, h2⟩ := out_some h'
        obtain ⟨n, hn, e⟩ := Option.map_eq_some_iff.1 h1
        exact go n hn (hs n hn) e.symm h2
      cases X with
      | v u =>
        cases u with
        | string q => simp at h
        | slice p m c =>
          refine tail h fun n hn => ?_
          simp [lenA] at hn; subst hn
          exact ⟨p, c, rx.v_inv⟩
        | _ => exact absurd h (by simp [out, lenA])
      | osl c off len e lb =>
        refine tail h fun n hn => ?_
        simp [lenA] at hn; subst hn
        obtain ⟨bb, o', cap, e, _⟩ := rx.osl_inv
        exact ⟨_, _, e⟩
      | fsl len cells =>
        refine tail h fun n hn => ?_
        simp [lenA] at hn; subst hn
        rcases rx.fsl_inv.fsl_inv with ⟨rfl, _, p, cap, e⟩ | ⟨bb, off, cap, f, e, _⟩
        · exact ⟨_, _, e⟩
        · exact ⟨_, _, e⟩
      | _ => exact absurd h (by simp [out, lenA])
    · simp at hc
  · -- append
    rename_i s x t u hx hts
    obtain ⟨y, y2, rfl, hy, hy2⟩ := args2 hx
    have := ats2 hts; subst this
    split at hc
    · rename_i e d hu hu2
      split at hc
      · rename_i i zs hi hz
        cases hn : notInt d with
        | false => simp [hn] at hc
        | true =>
          simp only [hn, cond_true, Option.some.injEq] at hc; subst hc
          obtain ⟨i', z, z1, z2, z3, rfl⟩ := zeroL_ok hz
          rw [hi] at z1; injection z1 with z1; subst z1
          simp only [aop] at h
          obtain ⟨⟨r', H2⟩, h1, h2⟩ := Option.map_eq_some_iff.1 h
          simp only [Out.val.injEq] at h2
          obtain ⟨rfl, rfl⟩ := h2
          have := append_ok (P := P) hR hid (ty := ty) hu hu2 (fun k hk => by subst hk; simp [notInt] at hn) hi z2 z3 (compO_ok ht hy) (compO_ok ht hy2) h1
          exact .of_val (by simpa using this)
      · simp at hc
    · simp at hc
  · -- copy
    rename_i d s t u hx hts
    obtain ⟨y, y2, rfl, hy, hy2⟩ := args2 hx
    have := ats2 hts; subst this
    split at hc
    · rename_i e hu
      obtain ⟨i, hi, rfl⟩ := Option.map_eq_some_iff.1 hc
      have rd := compO_ok ht hy
      have rs := compO_ok ht hy2
      simp only [aop] at h
      split at h
      · rename_i dl sl e1 e2
        split at h
        · simp at h
        · rename_i cs hcs
          obtain ⟨arr, hf, hall⟩ := elems_ok (P := P) hR hcs rs
          have hls := lenA_ok (P := P) e2 rs Γ.w
          have hcl := elems_len hcs
          have hal : arr.toList.length = Nat.min sl dl * i.size := hall.1 ▸ hcl
          -- the machine's own copy, up to the stores
          have mach : ∀ (base : Option Addr) (cap : Nat) (w' : World), a.eval y = .slice base dl cap → (match base with | some ad => storeCells ad arr.toList | none => pure () : Sem Unit).run P Γ.w = .ok () w' →
              (Builtin.copy_ #[t, u] ty (#[y, y2].map a.eval)).run P Γ.w = .ok (.int .i64 (Nat.min sl dl : Nat)) w' := by
            intro base cap w' e hst
            cases base with
            | none =>
              simp at hst; subst hst
              simp [Builtin.copy_, run_underlying hu, e, hls, run_sizeOf hi, hf, goInt]
            | some ad =>
              simp only at hst
              simp [Builtin.copy_, run_underlying hu, e, hls, run_sizeOf hi, hf, goInt, hst]
          cases hn0 : Nat.beq (Nat.min sl dl) 0 with
          | true =>
            simp only [hn0, cond_true, Option.some.injEq, Out.val.injEq] at h
            obtain ⟨rfl, rfl⟩ := h
            have hn : Nat.min sl dl = 0 := Nat.eq_of_beq_eq_true hn0
            have hnil : arr.toList = [] := by
              rw [hn] at hal; simp at hal; simpa using hal
            have fin : ∀ base cap, a.eval y = .slice base dl cap → Does P Γ id (builtin .copy #[t, u] ty consts (#[y, y2].map a.eval)) (.v (.int .i64 0)) Γ.H := by
              intro base cap e
              have := mach base cap Γ.w e (by rw [hnil]; cases base <;> simp [storeCells])
              rw [hn] at this
              exact Does.same hR ⟨_, this, .v Γ _⟩
            have hnostr : ∀ q, d.ev tm ≠ .v (.string q) := fun q hq => by rw [hq] at e1; simp [dlenA] at e1
            have e1 := dlen_len e1
            generalize d.ev tm = D at rd e1 hnostr
            cases D with
            | osl c off len e lb =>
              obtain ⟨bb, o', cap, e, _⟩ := rd.osl_inv
              simp [lenA] at e1; subst e1
              exact fin _ _ e
            | fsl len cells =>
              simp [lenA] at e1; subst e1
              rcases rd.fsl_inv.fsl_inv with ⟨rfl, _, p, cap, e⟩ | ⟨bb, off, cap, f, e, _⟩
              · exact fin _ _ e
              · exact fin _ _ e
            | v z =>
              cases z with
              | slice p m c => simp [lenA] at e1; subst e1; exact fin _ _ rd.v_inv
              | string q => exact absurd rfl (hnostr q)
              | _ => simp [lenA] at e1
            | _ => simp [lenA] at e1
          | false =>
            simp only [hn0, cond_false] at h
            split at h
            · rename_i c off len e lb ed
              split at h
              · simp at h
              · rename_i ch hg
                cases hb : (Nat.beq e i.size && Nat.ble (off + Nat.min sl dl * i.size) ch.cells.length && oneAll cs) with
                | false => simp [hb] at h
                | true =>
                  simp only [hb, cond_true, Option.some.injEq, Out.val.injEq] at h
                  obtain ⟨rfl, rfl⟩ := h
                  simp only [Bool.and_eq_true] at hb
                  have hle : off + Nat.min sl dl * i.size ≤ ch.cells.length := Nat.le_of_ble_eq_true hb.1.2
                  rw [ed] at rd
                  obtain ⟨bb, o', cap, ev, hU, ho, hlen, hlb, hbk⟩ := rd.osl_inv
                  obtain ⟨rfl, _⟩ := hbk ch hg
                  rw [ed] at e1
                  simp [dlenA, lenA] at e1; subst e1
                  have hne : Nat.min sl len ≠ 0 := fun hz => by rw [hz] at hn0; simp at hn0
                  have hlp : 0 < len := by
                    rcases Nat.eq_zero_or_pos len with h0 | h0
                    · subst h0; simp at hne
                    · exact h0
                  have : o' = off := by rcases ho with h | h <;> omega
                  subst this
                  obtain ⟨Γ', s1, s2, s3, s4, s5, s6, s7⟩ := setCells_ok (P := P) hR hg hall hb.2 (off := o') (by rw [hcl]; exact hle)
                  have := mach (some ⟨Γ.blk c, o', none⟩) cap Γ'.w ev s1
                  exact .of_val ⟨_, Γ', this, s2, s3, s4, .v Γ' _, fun k hk => .inl (s5 ▸ hk)⟩
            · simp at h
      · simp at h
    · simp at hc
  · -- clear
    rename_i s t hx hts
    obtain ⟨y, rfl, hy⟩ := args1 hx
    have := ats1 hts; subst this
    split at hc
    · rename_i e hu
      split at hc
      · rename_i i zs hi hz
        simp only [Option.some.injEq] at hc; subst hc
        obtain ⟨i', z, z1, z2, z3, rfl⟩ := zeroL_ok hz
        rw [hi] at z1; injection z1 with z1; subst z1
        have rx := compO_ok ht hy
        simp only [aop] at h
        split at h
        · rename_i m c e1
          simp only [Option.some.injEq, Out.val.injEq] at h
          obtain ⟨rfl, rfl⟩ := h
          rw [e1] at rx
          exact Does.same hR ⟨.tuple #[], by simp [rx.v_inv, Builtin.clear_, run_underlying hu], .v Γ _⟩
        · rename_i c off len e' lb e1
          rw [e1] at rx
          obtain ⟨bb, o', cap, ev, hU, ho, hlen, hlb, hbk⟩ := rx.osl_inv
          cases hl0 : Nat.beq len 0 with
          | true =>
            simp only [hl0, cond_true, Option.some.injEq, Out.val.injEq] at h
            obtain ⟨rfl, rfl⟩ := h
            have := Nat.eq_of_beq_eq_true hl0
            subst this
            exact Does.same hR ⟨.tuple #[], by simp [ev, Builtin.clear_, run_underlying hu], .v Γ _⟩
          | false =>
            simp only [hl0, cond_false] at h
            split at h
            · simp at h
            · rename_i ch hg
              cases hb : (Nat.beq e' i.size && Nat.beq (z.cells.toList.map AV.v).length i.size && Nat.ble (off + len * i.size) ch.cells.length && oneAll (z.cells.toList.map AV.v)) with
              | false => simp only [hb, cond_false] at h; simp at h
              | true =>
                simp only [hb, cond_true, Option.some.injEq, Out.val.injEq] at h
                obtain ⟨rfl, rfl⟩ := h
                simp only [Bool.and_eq_true] at hb
                have hle : off + len * i.size ≤ ch.cells.length := Nat.le_of_ble_eq_true hb.1.2
                obtain ⟨rfl, _⟩ := hbk ch hg
                have hlp : len ≠ 0 := fun hz => by rw [hz] at hl0; simp at hl0
                have : o' = off := by rcases ho with h | h <;> omega
                subst this
                have hone : oneAll (repA (z.cells.toList.map AV.v) len) = true := by
                  have : ∀ (p q : List AV), oneAll p = true → oneAll q = true → oneAll (p ++ q) = true := by
                    intro p q h1 h2
                    induction p with
                    | nil => simpa using h2
                    | cons x xs ih => simp only [oneAll, Bool.and_eq_true, List.cons_append] at h1 ⊢; exact ⟨h1.1, ih h1.2⟩
                  generalize len = n
                  induction n with
                  | zero => rfl
                  | succ n ih => exact this _ _ hb.2 ih
                have hall := repA_ok Γ z.cells len
                obtain ⟨Γ', s1, s2, s3, s4, s5, s6, s7⟩ := setCells_ok (P := P) hR hg hall hone (off := o') (by rw [repA_len, List.length_map, Array.length_toList, z3]; exact hle)
                refine .of_val ⟨.tuple #[], Γ', ?_, s2, s3, s4, .v Γ' _, fun k hk => .inl (s5 ▸ hk)⟩
                have s1' : (storeCells ⟨Γ.blk c, o', none⟩ (Builtin.zeroCells z.cells len).toList).run P Γ.w = .ok () Γ'.w := s1
                obtain ⟨l', rfl⟩ : ∃ l', len = l' + 1 := ⟨len - 1, by omega⟩
                simp [ev, Builtin.clear_, run_underlying hu, run_zeroValue hi z2, s1']
        · simp at h
      · simp at hc
    · simp at hc
  · -- max
    rename_i xs hx
    simp only [Option.some.injEq] at hc; subst hc
    simp only [aop] at h
    obtain ⟨h1, rfl⟩ := out_some h
    have hall := compOs_ok ht hx
    generalize xs.map (·.ev tm) = l at h1 hall
    cases l with
    | nil => simp [maxA] at h1
    | cons x l =>
      obtain ⟨v, vs, ev, hv, hvs⟩ := hall.uncons
      cases x with
      | v q =>
        have := hv.v_inv; subst this
        cases v with
        | int k n =>
          simp only [maxA] at h1
          obtain ⟨z, rfl, hz⟩ := foldM_ok (P := P) true hvs h1
          simp only [cond_true] at hz
          exact Does.same hR ⟨z, by simp only [Builtin.max_, ev]; exact hz, .v Γ z⟩
        | _ => simp [maxA] at h1
      | _ => simp [maxA] at h1
  · -- min
    rename_i xs hx
    simp only [Option.some.injEq] at hc; subst hc
    simp only [aop] at h
    obtain ⟨h1, rfl⟩ := out_some h
    have hall := compOs_ok ht hx
    generalize xs.map (·.ev tm) = l at h1 hall
    cases l with
    | nil => simp [maxA] at h1
    | cons x l =>
      obtain ⟨v, vs, ev, hv, hvs⟩ := hall.uncons
      cases x with
      | v q =>
        have := hv.v_inv; subst this
        cases v with
        | int k n =>
          simp only [maxA] at h1
          obtain ⟨z, rfl, hz⟩ := foldM_ok (P := P) false hvs h1
          simp only [cond_false] at hz
          exact Does.same hR ⟨z, by simp only [Builtin.min_, ev]; exact hz, .v Γ z⟩
        | _ => simp [maxA] at h1
      | _ => simp [maxA] at h1
  · simp at hc

theorem does_op {P : Program} {Γ : Ctx} (hR : HRel Γ) {id : Nat} (hid : ¬ Γ.U id) {tm : TM} {a : Act} (ht : TR Γ tm a) {o : Oper} {ao : AOp} (hc : compOp P o.op = some ao)
    {r : AV} {H' : Heap} (h : aop ao tm id Γ.H = some (.val r H')) : Does P Γ id (execOp a.eval o) r H' := by
  obtain ⟨dst, op, ty, pos, after, guard⟩ := o
  simp only at hc
  cases op with
  | move x =>
    obtain ⟨ax, hx, rfl⟩ := Option.map_eq_some_iff.1 hc
    simp only [aop, Option.some.injEq, Out.val.injEq] at h
    obtain ⟨rfl, rfl⟩ := h
    exact Does.pure hR (compO_ok ht hx)
  | assign x =>
    obtain ⟨ax, hx, rfl⟩ := Option.map_eq_some_iff.1 hc
    simp only [aop, Option.some.injEq, Out.val.injEq] at h
    obtain ⟨rfl, rfl⟩ := h
    exact Does.pure hR (compO_ok ht hx)
  | pick c x y =>
    simp only [compOp] at hc
    split at hc
    · rename_i ac ax ay h1 h2 h3
      simp only [Option.some.injEq] at hc; subst hc
      simp only [aop] at h
      split at h
      · simp at h
      · rename_i t hb
        simp only [Option.some.injEq, Out.val.injEq] at h
        obtain ⟨rfl, rfl⟩ := h
        have e := boolA_ok hb (compO_ok ht h1)
        refine ⟨.value (if t then a.eval x else a.eval y), Γ, by simp [execOp, e, asBool], rfl, Ev.refl Γ, hR, fun _ h => .inl h, .inl ⟨_, rfl, ?_⟩⟩
        cases t
        · exact compO_ok ht h3
        · exact compO_ok ht h2
    · simp at hc
  | alloc e =>
    obtain ⟨zs, hz, rfl⟩ := Option.map_eq_some_iff.1 hc
    obtain ⟨i, z, h1, h2, h3, rfl⟩ := zeroL_ok hz
    simp only [aop, Option.some.injEq, Out.val.injEq] at h
    obtain ⟨rfl, rfl⟩ := h
    exact .of_val (alloc_ok hR hid h1 h2)
  | box e x =>
    simp only [compOp] at hc
    split at hc
    · rename_i i ax h1 h2
      simp only [Option.some.injEq] at hc; subst hc
      simp only [aop] at h
      cases hb' : Nat.beq (ax.ev tm).cells.length i.size with
      | false => simp [hb'] at h
      | true =>
        simp only [hb', cond_true, Option.some.injEq, Out.val.injEq] at h
        obtain ⟨rfl, rfl⟩ := h
        exact .of_val (box_ok hR hid e (compO_ok ht h2))
    · simp at hc
  | build t parts =>
    simp only [compOp] at hc
    have body : ∀ {zs : List AV} {place : Nat → Option (Nat × Nat)} {as : List (Nat × Nat × AO)}, zeroL P t = some zs → compParts place parts.toList = some as → ao = .build zs as →
        (∀ z, (∃ i, P.info? t = some i ∧ i.zero = some z) → ∀ cells, Instr.fill place z.cells (parts.map fun (i, x) => (i, a.eval x)).toList = some cells → (Instr.build t (parts.map fun (i, x) => (i, a.eval x))).run P Γ.w = .ok (.agg cells) Γ.w) →
        Does P Γ id (execOp a.eval ⟨dst, .build t parts, ty, pos, after, guard⟩) r H' := by
      intro zs place as hz hp e hrun
      subst e
      obtain ⟨i, z, z1, z2, z3, rfl⟩ := zeroL_ok hz
      simp only [aop] at h
      obtain ⟨h1, rfl⟩ := out_some h
      obtain ⟨cs, hcs, rfl⟩ := Option.map_eq_some_iff.1 h1
      obtain ⟨p1, p2⟩ := parts_ok ht hp
      obtain ⟨cells, f1, f2⟩ := All2.fill _ _ _ _ z.cells (zero_cells Γ z) hcs p1 p2
      refine Does.same hR ⟨.agg cells, hrun z ⟨i, z1, z2⟩ cells (by simpa using f1), ?_⟩
      have := f2.arr
      rwa [Array.toArray_toList] at this
    split at hc
    · rename_i fs i zs hu hi hz
      split at hc
      · simp at hc
      · rename_i places hpl
        obtain ⟨as, has, rfl⟩ := Option.map_eq_some_iff.1 hc
        refine body hz has rfl fun z ⟨i', hi', hz'⟩ cells hf => run_build Γ.w t _ cells ?_
        simp [Program.built, hi', hu, hz', hpl]
        simpa using hf
    · rename_i n e i zs hu hi hz
      split at hc
      · simp at hc
      · rename_i ie hie
        obtain ⟨as, has, rfl⟩ := Option.map_eq_some_iff.1 hc
        refine body hz has rfl fun z ⟨i', hi', hz'⟩ cells hf => run_build Γ.w t _ cells ?_
        simp [Program.built, hi', hu, hz', hie]
        simpa using hf
    · simp at hc
  | buildSlice t n parts =>
    simp only [compOp] at hc
    split at hc
    · rename_i e hu
      split at hc
      · rename_i i zs hi hz
        split at hc
        · rename_i hsz
          obtain ⟨as, has, rfl⟩ := Option.map_eq_some_iff.1 hc
          obtain ⟨i', z, z1, z2, z3, rfl⟩ := zeroL_ok hz
          rw [hi] at z1; injection z1 with z1; subst z1
          simp only [aop] at h
          split at h
          · simp at h
          · rename_i cs hcs
            simp only [Option.some.injEq, Out.val.injEq] at h
            obtain ⟨rfl, rfl⟩ := h
            obtain ⟨p1, p2⟩ := parts_ok ht has
            obtain ⟨cells, f1, f2⟩ := All2.fill (place := fun k => some (k * i.size, i.size)) _ _ _ _ _ (repA_ok Γ z.cells n) hcs p1 p2
            obtain ⟨Γ', n1, n2, n3, n4, n5, n6, n7, n8⟩ := new_ok (P := P) hR hid e f2
            have hrun := run_buildSlice hu hi z2 z3 hsz (parts := parts.map fun (i, x) => (i, a.eval x)) (by simpa using f1) Γ.w
            have hnr : Γ'.w = Γ.w.alloc (.cells cells e (0, 0)) := by
              have := n1
              simp [newRow] at this
              exact this.symm
            rw [← hnr] at hrun
            refine .of_val ⟨_, Γ', hrun, n2, n3, n4, RL.newSlice n6 n7 ?_ n (Nat.le_refl _), n5⟩
            rw [n8]
            have := f2.1
            have hl : cs.length = n * i.size := by
              rw [fillA_len hcs, repA_len, List.length_map, Array.length_toList, z3]
            simp at this; omega
        · simp at hc
      · simp at hc
    · simp at hc
  | load t x =>
    simp only [compOp] at hc
    split at hc
    · rename_i d i ax hu hi hx
      simp only [Option.some.injEq] at hc; subst hc
      simp only [aop] at h
      obtain ⟨h1, rfl⟩ := out_some h
      exact .of_val (load_ok hR id hu hi (compO_ok ht hx) h1)
    · simp at hc
  | store t x y =>
    simp only [compOp] at hc
    split at hc
    · rename_i i ax ay hi hx hy
      simp only [Option.some.injEq] at hc; subst hc
      simp only [aop] at h
      obtain ⟨H2, h1, h2⟩ := Option.map_eq_some_iff.1 h
      simp only [Out.val.injEq] at h2
      obtain ⟨rfl, rfl⟩ := h2
      obtain ⟨Γ', s1, s2, s3, s4, s5⟩ := store_ok (P := P) hR id hi (compO_ok ht hx) (compO_ok ht hy) h1
      exact ⟨.skip, Γ', by simp [execOp, s1], s2, s3, s4, s5, .inr ⟨rfl, .v Γ' _⟩⟩
    · simp at hc
  | nilCheck x =>
    obtain ⟨ax, hx, rfl⟩ := Option.map_eq_some_iff.1 hc
    simp only [aop] at h
    have rx := compO_ok ht hx
    split at h <;> first | (simp at h; done) | (simp only [Option.some.injEq, Out.val.injEq] at h; obtain ⟨rfl, rfl⟩ := h; rename_i e1; rw [e1] at rx)
    · obtain ⟨b, e, _⟩ := rx.ptr_inv
      refine ⟨.value (a.eval x), Γ, by simp [execOp, e], rfl, Ev.refl Γ, hR, fun _ h => .inl h, .inl ⟨_, rfl, rx⟩⟩
    · obtain ⟨b, off, f, e, _⟩ := rx.eptr_inv.eptr_inv
      refine ⟨.value (a.eval x), Γ, by simp [execOp, e], rfl, Ev.refl Γ, hR, fun _ h => .inl h, .inl ⟨_, rfl, rx⟩⟩
    · obtain ⟨vs, e, _⟩ := rx.fn_inv
      refine ⟨.value (a.eval x), Γ, by simp [execOp, e], rfl, Ev.refl Γ, hR, fun _ h => .inl h, .inl ⟨_, rfl, rx⟩⟩
  | binOp b t x y yt => exact does_bin hR ht hc h
  | unOp b t x =>
    obtain ⟨ax, hx, rfl⟩ := Option.map_eq_some_iff.1 hc
    simp only [aop] at h
    have rx := compO_ok ht hx
    split at h
    · rename_i u e1
      obtain ⟨h1, rfl⟩ := out_some h
      obtain ⟨z, hz, rfl⟩ := Option.map_eq_some_iff.1 h1
      rw [e1] at rx
      have e := rx.v_inv
      exact Does.same hR ⟨z, by rw [e]; exact un_ok hz Γ.w, .v Γ z⟩
    · simp at h
  | convert s d x =>
    simp only [compOp, compConv] at hc
    split at hc
    · rename_i k' k ax hs hd hx
      simp only [Option.some.injEq] at hc; subst hc
      simp only [aop] at h
      have rx := compO_ok ht hx
      split at h
      · rename_i kk n e1
        simp only [Option.some.injEq, Out.val.injEq] at h
        obtain ⟨rfl, rfl⟩ := h
        rw [e1] at rx
        have e := rx.v_inv
        exact Does.same hR ⟨_, by rw [e]; simp [convert, run_underlying hs, run_underlying hd, Conv.intToInt], .v Γ _⟩
      · simp at h
    · rename_i e' ax hs hd hx
      split at hc
      · rename_i he
        simp only [Option.some.injEq] at hc; subst hc
        simp only [aop] at h
        have rx := compO_ok ht hx
        generalize ax.ev tm = X at h rx
        have go : ∀ {n : Nat} {cs : List AV} {bs : List UInt8}, lenA X = some n → elemsA Γ.H 1 n X = some cs → bytesOf cs = some bs → (∀ q, X ≠ .v (.string q)) → r = .v (.string ⟨bs.toArray⟩) → H' = Γ.H →
            Does P Γ id (execOp a.eval ⟨dst, .convert s d x, ty, pos, after, guard⟩) r H' := by
          intro n cs bs h1 h2 h3 h4 h5 h6
          subst h5; subst h6
          exact Does.same hR ⟨_, b2s_ok hR hs he hd rx h1 h2 h3 h4, .v Γ _⟩
        have tail : (match lenA X with
            | none => none
            | some n => match elemsA Γ.H 1 n X with
              | none => none
              | some cs => out Γ.H ((bytesOf cs).map fun bs => .v (.string ⟨bs.toArray⟩))) = some (.val r H') → (∀ q, X ≠ .v (.string q)) → Does P Γ id (execOp a.eval ⟨dst, .convert s d x, ty, pos, after, guard⟩) r H' := by
          intro ht' hq
          split at ht'
          · simp at ht'
          · rename_i n hn
            split at ht'
            · simp at ht'
            · rename_i cs hcs
              obtain ⟨h1, h2⟩ := out_some ht'
              obtain ⟨bs, hbs, e⟩ := Option.map_eq_some_iff.1 h1
              exact go hn hcs hbs hq e.symm h2
        cases X with
        | v y =>
          cases y with
          | slice p m c =>
            cases p with
            | none =>
              simp only [Option.some.injEq, Out.val.injEq] at h
              obtain ⟨rfl, rfl⟩ := h
              have e := rx.v_inv
              exact Does.same hR ⟨_, by rw [e]; exact run_convert_bytes_nil Γ.w s e' hs he m c d hd, .v Γ _⟩
            | some p => simp at h
          | _ => simp at h
        | _ => exact tail h (by simp)
      · simp at hc
    · rename_i e' ax hs hd hx
      split at hc
      · rename_i he
        simp only [Option.some.injEq] at hc; subst hc
        simp only [aop] at h
        have rx := compO_ok ht hx
        split at h
        · rename_i q e1
          simp only [Option.some.injEq, Out.val.injEq] at h
          obtain ⟨rfl, rfl⟩ := h
          rw [e1] at rx
          have e := rx.v_inv
          have hrun := run_bytes_of_string (P := P) Γ.w s d e' q hs hd he
          generalize hcap : grownCap Γ.w q.size 0 e' = cap at hrun
          have hcap' : q.size ≤ cap := by rw [← hcap]; exact grownCap_ge _ _ _ _
          generalize hw : (Γ.w.drew.alloc (.cells (bytesRow q cap) e' ((bytesRow q cap).size, (bytesRow q cap).size + 1))) = w' at hrun
          have hwn : w'.heap[Γ.w.heap.size]? = some (.cells (bytesRow q cap) e' ((bytesRow q cap).size, (bytesRow q cap).size + 1)) := by rw [← hw]; exact alloc_new Γ.w.drew _
          have hws : w'.heap.size = Γ.w.heap.size + 1 := by rw [← hw]; exact alloc_size Γ.w.drew _
          have hwo : ∀ b, b < Γ.w.heap.size → w'.heap[b]? = Γ.w.heap[b]? := fun b hb => by rw [← hw]; exact alloc_old Γ.w.drew _ b hb
          obtain ⟨e2, e3⟩ := ev_frozen hR w' (fun b => b = Γ.w.heap.size) (fun b hb => by omega) (by omega) hwo (by rw [← hw]; rfl) (by rw [← hw]; rfl) (by rw [← hw]; rfl)
          refine .of_val ⟨.slice (some ⟨Γ.w.heap.size, 0, none⟩) q.size cap, { Γ with w := w', F := fun b => Γ.F b ∨ b = Γ.w.heap.size }, by rw [e]; exact hrun, rfl, e2, e3, ?_, fun c hc => .inl hc⟩
          have hcell : ∀ (j : Nat) (x : AV), (cellsOfBytes q.data.toList)[j]? = some x → ∃ b : UInt8, x = .v (.int .u8 b.toNat) ∧ (bytesRow q cap)[j]? = some (.int .u8 b.toNat) := by
            intro j x hj
            have hb := (bytes_cells Γ q.data.toList).get hj
            have hl : ∀ (l : List UInt8) (j : Nat) (x : AV), (cellsOfBytes l)[j]? = some x → ∃ b : UInt8, l[j]? = some b ∧ x = .v (.int .u8 b.toNat) := by
              intro l
              induction l with
              | nil => intro j x h; simp [cellsOfBytes] at h
              | cons b r ih =>
                intro j x h
                cases j with
                | zero => simp [cellsOfBytes] at h; exact ⟨b, rfl, h.symm⟩
                | succ j => simp [cellsOfBytes] at h; simpa using ih j x h
            obtain ⟨b, hb1, hb2⟩ := hl _ j x hj
            refine ⟨b, hb2, ?_⟩
            have hb3 : q.data[j]? = some b := by simpa using hb1
            have hjs : j < q.data.size := (Array.getElem?_eq_some_iff.1 hb3).1
            rw [bytesRow, Array.getElem?_append_left (by simpa using hjs)]
            simp [hb3]
          refine .tree (.fsl Γ.w.heap.size 0 q.size cap _ (fun j => ((bytesRow q cap)[j]?).getD undef) (.inr rfl) hcap' ?_ ?_)
          · intro j x hj
            obtain ⟨b, _, hb⟩ := hcell j x hj
            show w'.cell? _ = _
            rw [cell_of_arr hwn, Nat.zero_add, hb]; rfl
          · intro j x hj
            obtain ⟨b, rfl, hb⟩ := hcell j x hj
            show RT _ _ _ (((bytesRow q cap)[j]?).getD undef)
            rw [hb]; exact .v _
        · simp at h
      · simp at hc
    · rename_i ax hs hd hx
      simp only [Option.some.injEq] at hc; subst hc
      simp only [aop] at h
      have rx := compO_ok ht hx
      split at h
      · rename_i q e1
        simp only [Option.some.injEq, Out.val.injEq] at h
        obtain ⟨rfl, rfl⟩ := h
        rw [e1] at rx
        have e := rx.v_inv
        exact Does.same hR ⟨_, by rw [e]; simp [convert, run_underlying hs, run_underlying hd], .v Γ _⟩
      · simp at h
    · simp at hc
  | makeFunc fn first caps =>
    cases fn with
    | func g =>
      simp only [compOp] at hc
      cases hf : first.isEmpty with
      | false => simp [hf] at hc
      | true =>
        simp only [hf, cond_true] at hc
        obtain ⟨as, has, rfl⟩ := Option.map_eq_some_iff.1 hc
        simp only [aop, Option.some.injEq, Out.val.injEq] at h
        obtain ⟨rfl, rfl⟩ := h
        have hfe : first = #[] := by simpa using hf
        subst hfe
        have hall := compOs_ok ht has
        refine Does.same hR ⟨.func (.func g) #[] (caps.map a.eval), by simp [Instr.makeFunc], ?_⟩
        exact .fn g _ _ (by have := hall.1; simpa using this) (fun j x y h1 h2 => hall.2 j x y h1 (by simpa using h2))
    | _ => simp [compOp] at hc
  | slice t x lo hi mx =>
    simp only [compOp] at hc
    split at hc
    · rename_i ax al ah hu hx hl hh hm
      simp only [Option.some.injEq] at hc; subst hc
      simp only [aop] at h
      obtain ⟨h1, rfl⟩ := out_some h
      have hmn : mx = none := by
        cases mx with
        | none => rfl
        | some m => simp [compOO] at hm
      subst hmn
      exact Does.same hR (sliceS_ok hu (compO_ok ht hx) (compOO_ok ht hl) (compOO_ok ht hh) h1 Γ.w)
    · rename_i e ax al ah am hu hx hl hh hm
      obtain ⟨i, hi', rfl⟩ := Option.map_eq_some_iff.1 hc
      simp only [aop] at h
      obtain ⟨h1, rfl⟩ := out_some h
      exact Does.same hR (slice_ok hu hi' (compO_ok ht hx) (compOO_ok ht hl) (compOO_ok ht hh) (compOO_ok ht hm) h1 Γ.w)
    · simp at hc
  | fieldAddr s x f =>
    simp only [compOp] at hc
    split at hc
    · rename_i fs ax hu hx
      split at hc
      · simp at hc
      · rename_i fd hfd
        split at hc
        · simp at hc
        · rename_i i hi
          split at hc
          · simp at hc
          · rename_i hs
            simp only [Option.some.injEq] at hc; subst hc
            simp only [aop] at h
            obtain ⟨h1, rfl⟩ := out_some h
            exact Does.same hR (faddr_ok hu hfd hi hs (compO_ok ht hx) h1 Γ.w)
    · simp at hc
  | field s x f =>
    simp only [compOp] at hc
    split at hc
    · rename_i fs ax hu hx
      split at hc
      · simp at hc
      · rename_i fd hfd
        split at hc
        · rename_i d i hd hi
          simp only [Option.some.injEq] at hc; subst hc
          simp only [aop] at h
          have rx := compO_ok ht hx
          split at h
          · rename_i cs e1
            rw [e1] at rx
            obtain ⟨vs, ev, l1, g1⟩ := rx.agg_inv
            have hh : (bif aggD d then (bif Nat.ble (fd.offset + i.size) cs.length then some (AV.agg ((cs.drop fd.offset).take i.size)) else none) else cs[fd.offset]?) = some r ∧ H' = Γ.H := by
              cases hd' : aggD d with
              | true =>
                simp only [hd', cond_true] at h ⊢
                cases hb : Nat.ble (fd.offset + i.size) cs.length with
                | false => simp [hb] at h
                | true => simp only [hb, cond_true, Option.some.injEq, Out.val.injEq] at h ⊢; exact ⟨h.1, h.2.symm⟩
              | false =>
                simp only [hd', cond_false] at h ⊢
                exact out_some h
            obtain ⟨h1, rfl⟩ := hh
            obtain ⟨v, hv, hr⟩ := part_ok (P := P) hd hi (All2.of_arr l1 g1) h1 Γ.w
            exact Does.same hR ⟨v, by rw [ev]; simp [Instr.field, run_underlying hu, hfd, asAgg, hv], hr⟩
          · simp at h
        · simp at hc
    · simp at hc
  | indexAddr t x ix =>
    simp only [compOp] at hc
    split at hc
    · rename_i e ax ai hu hx hi
      obtain ⟨ie, hie, rfl⟩ := Option.map_eq_some_iff.1 hc
      simp only [aop] at h
      split at h
      · simp at h
      · rename_i n hn
        obtain ⟨k, ek⟩ := intA_ok hn (compO_ok ht hi)
        obtain ⟨h1, rfl⟩ := out_some h
        exact Does.same hR (by rw [ek]; exact iaddr_slice hu hie (compO_ok ht hx) h1 Γ.w)
    · rename_i m e ax ai hu hx hi
      obtain ⟨ie, hie, rfl⟩ := Option.map_eq_some_iff.1 hc
      simp only [aop] at h
      split at h
      · simp at h
      · rename_i n hn
        obtain ⟨k, ek⟩ := intA_ok hn (compO_ok ht hi)
        split at h
        · rename_i hcnd
          obtain ⟨h1, rfl⟩ := out_some h
          exact Does.same hR (by rw [ek]; exact iaddr_array hu hie (compO_ok ht hx) hcnd.1 hcnd.2 h1 Γ.w)
        · simp at h
    · simp at hc
  | extract x i =>
    obtain ⟨ax, hx, rfl⟩ := Option.map_eq_some_iff.1 hc
    simp only [aop] at h
    have rx := compO_ok ht hx
    split at h
    · rename_i vs e1
      obtain ⟨h1, rfl⟩ := out_some h
      rw [e1] at rx
      obtain ⟨us, ev, l1, g1⟩ := rx.tup_inv
      obtain ⟨v, hv, hr⟩ := (All2.of_arr l1 g1).get h1
      have hv' : us[i]? = some v := by simpa using hv
      exact Does.same hR ⟨v, by rw [ev]; simp [Instr.extract, hv'], hr⟩
    · simp at h
  | makeSlice t l c =>
    simp only [compOp] at hc
    split at hc
    · rename_i e hu
      split at hc
      · rename_i i zs al ac hi hz hl hcp
        simp only [Option.some.injEq] at hc; subst hc
        obtain ⟨i', z, z1, z2, z3, rfl⟩ := zeroL_ok hz
        rw [hi] at z1; injection z1 with z1; subst z1
        simp only [aop] at h
        split at h
        · rename_i ln cn e1 e2
          split at h
          · rename_i hb
            simp only [Option.some.injEq, Out.val.injEq] at h
            obtain ⟨rfl, rfl⟩ := h
            obtain ⟨k1, q1⟩ := intA_ok e1 (compO_ok ht hl)
            obtain ⟨k2, q2⟩ := intA_ok e2 (compO_ok ht hcp)
            obtain ⟨c0, rfl⟩ := Int.eq_ofNat_of_zero_le (show 0 ≤ cn by omega)
            obtain ⟨l0, rfl⟩ := Int.eq_ofNat_of_zero_le hb.1
            have hcells := repA_ok Γ z.cells c0
            rw [z3] at hcells
            obtain ⟨Γ', n1, n2, n3, n4, n5, n6, n7, n8⟩ := new_ok (P := P) hR hid e hcells
            have hrun : (Instr.makeSlice t (a.eval l) (a.eval c)).run P Γ.w = .ok (.slice (some ⟨Γ.w.heap.size, 0, none⟩) l0 c0) Γ'.w := by
              rw [q1, q2]
              exact run_mkslice hu hi z2 z3 (by omega) (by have := hb.2.2.1; omega) (by omega) n1
            refine .of_val ⟨_, Γ', hrun, n2, n3, n4, ?_, n5⟩
            have := RL.newSlice (esz := i.size) (n := c0) n6 n7 (by rw [n8]; simp) l0 (by omega)
            simpa using this
          · simp at h
        · simp at h
      · simp at hc
    · simp at hc
  | index t x ix =>
    simp only [compOp] at hc
    split at hc
    · rename_i ax ai hu hx hi
      simp only [Option.some.injEq] at hc; subst hc
      simp only [aop] at h
      have rx := compO_ok ht hx
      split at h
      · rename_i q n e1 hn
        obtain ⟨k, ek⟩ := intA_ok hn (compO_ok ht hi)
        split at h
        · rename_i h0
          obtain ⟨h1, rfl⟩ := out_some h
          obtain ⟨b, hb, rfl⟩ := Option.map_eq_some_iff.1 h1
          rw [e1] at rx
          have e := rx.v_inv
          have hq : q[n.toNat]? = some b := by
            have hl : n.toNat < q.data.toList.length := (List.getElem?_eq_some_iff.1 hb).1
            have hs : n.toNat < q.size := by simpa using hl
            have hb2 := (List.getElem?_eq_some_iff.1 hb).2
            rw [getElem?_pos q n.toNat hs]
            exact congrArg some hb2
          exact Does.same hR ⟨.int .u8 b.toNat, by rw [ek, e]; simp [Instr.index, asIntOf, run_underlying hu, h0, hq], .v Γ _⟩
        · simp at h
      · simp at h
    · rename_i m e ax ai hu hx hi
      split at hc
      · rename_i d ie hd hie
        simp only [Option.some.injEq] at hc; subst hc
        simp only [aop] at h
        have rx := compO_ok ht hx
        split at h
        · rename_i cs n e1 hn
          obtain ⟨k, ek⟩ := intA_ok hn (compO_ok ht hi)
          split at h
          · rename_i hb
            rw [e1] at rx
            obtain ⟨vs, ev, l1, g1⟩ := rx.agg_inv
            have hh : (bif aggD d then (bif Nat.ble (n.toNat * ie.size + ie.size) cs.length then some (AV.agg ((cs.drop (n.toNat * ie.size)).take ie.size)) else none) else cs[n.toNat * ie.size]?) = some r ∧ H' = Γ.H := by
              cases hd' : aggD d with
              | true =>
                simp only [hd', cond_true] at h ⊢
                cases hb' : Nat.ble (n.toNat * ie.size + ie.size) cs.length with
                | false => simp [hb'] at h
                | true => simp only [hb', cond_true, Option.some.injEq, Out.val.injEq] at h ⊢; exact ⟨h.1, h.2.symm⟩
              | false =>
                simp only [hd', cond_false] at h ⊢
                exact out_some h
            obtain ⟨h1, rfl⟩ := hh
            obtain ⟨v, hv, hr⟩ := part_ok (P := P) hd hie (All2.of_arr l1 g1) h1 Γ.w
            exact Does.same hR ⟨v, by rw [ek, ev]; simp [Instr.index, asIntOf, run_underlying hu, hb.1, hb.2, run_sizeOf hie, hv], hr⟩
          · simp at h
        · simp at h
      · simp at hc
    · simp at hc
  | call c =>
    simp only [compOp] at hc
    split at hc
    · rename_i b hcal
      have hex : execOp a.eval ⟨dst, .call c, ty, pos, after, guard⟩ = builtin b c.argTypes ty (c.args.map fun | .const _ => true | _ => false) (c.args.map a.eval) := by
        simp only [execOp, resolve, hcal, invoke]
        rfl
      rw [hex]
      exact does_builtin hR hid ht hc h
    · split at hc
      · simp only [Option.some.injEq] at hc; subst hc; simp [aop] at h
      · simp only [Option.some.injEq] at hc; subst hc
        simp only [aop] at h
        split at h <;> simp at h
      · simp at hc
    · simp at hc
  | _ => simp [compOp] at hc

end Go.Am

/- Trees out of the call's own memory; parts of a memory. -/
namespace Go.Am
set_option autoImplicit false
set_option linter.unusedSimpArgs false
set_option linter.unusedVariables false

theorem mapO_some {α β : Type} {f : α → Option β} : ∀ {l : List α} {r : List β}, mapO f l = some r → l.length = r.length ∧ ∀ (j : Nat) (b : β), r[j]? = some b → ∃ x, l[j]? = some x ∧ f x = some b
  | [], r, h => by simp [mapO] at h; subst h; exact ⟨rfl, fun j b h => by simp at h⟩
  | x :: xs, r, h => by
    simp only [mapO] at h
    cases hx : f x with
    | none => simp [hx] at h
    | some y =>
      simp only [hx] at h
      cases hr : mapO f xs with
      | none => simp [hr] at h
      | some ys =>
        simp only [hr, Option.some.injEq] at h
        subst h
        obtain ⟨h1, h2⟩ := mapO_some hr
        refine ⟨by simp [h1], fun j b hb => ?_⟩
        cases j with
        | zero => simp at hb; subst hb; exact ⟨x, rfl, hx⟩
        | succ j => simpa using h2 j b (by simpa using hb)

theorem liveL_get {l : List AV} (h : live.liveL l = false) {j : Nat} {a : AV} (ha : l[j]? = some a) : live a = false := by
  induction l generalizing j with
  | nil => simp at ha
  | cons x r ih =>
    simp only [live.liveL, Bool.or_eq_false_iff] at h
    cases j with
    | zero => simp at ha; subst ha; exact h.1
    | succ j => exact ih h.2 (by simpa using ha)

/-- What a value is, as a tree: in memory (Fx) that holds the chunks that are met, and what stayed already unless that is barred. -/
theorem frz_ok {Γ : Ctx} (hR : HRel Γ) {fresh : Bool} {Fx : Nat → Prop} (hF : fresh = false → ∀ b, Γ.F b → Fx b) :
    ∀ (n : Nat) {a t : AV} {v : Value}, frz fresh Γ.H n a = some t → RL Γ a v → (live a = true → ∀ c ch, hget Γ.H c = some ch → Fx (Γ.blk c)) → RT Fx Γ.w t v := by
  intro n
  induction n with
  | zero => intro a t v h; simp [frz] at h
  | succ n ih =>
    intro a t v h hr hL
    have stay : ∀ {a t : AV} {v : Value}, RT Γ.F Γ.w a v → fresh = false → a = t → RT Fx Γ.w t v := by
      intro a t v h1 h2 h3
      subst h3
      exact h1.mono (hF h2) (fun b _ => rfl)
    have many : ∀ {cs ts : List AV} {vs : List Value}, mapO (frz fresh Γ.H n) cs = some ts → All2 (RL Γ) cs vs → (∀ (j : Nat) (x : AV), cs[j]? = some x → live x = true → ∀ c ch, hget Γ.H c = some ch → Fx (Γ.blk c)) → All2 (RT Fx Γ.w) ts vs := by
      intro cs ts vs h1 h2 h3
      obtain ⟨k1, k2⟩ := mapO_some h1
      refine ⟨by rw [← k1]; exact h2.1, fun j b x hb hx => ?_⟩
      obtain ⟨y, hy, hyb⟩ := k2 j b hb
      exact ih hyb (h2.2 j y x hy hx) (h3 j y hy)
    cases a with
    | v x =>
      have := hr.v_inv; subst this
      simp only [frz] at h
      have : t = .v v := by
        split at h <;> first | (cases fresh <;> simp at h <;> exact h.symm) | (simp at h; exact h.symm)
      subst this
      exact .v _
    | eptr cells =>
      simp only [frz] at h
      cases fresh with
      | true => simp at h
      | false => simp at h; exact stay hr.eptr_inv rfl h
    | fsl len cells =>
      simp only [frz] at h
      cases fresh with
      | true => simp at h
      | false => simp at h; exact stay hr.fsl_inv rfl h
    | ptr c off =>
      simp only [frz] at h
      cases hg : hget Γ.H c with
      | none => simp [hg] at h
      | some ch =>
        simp only [hg] at h
        obtain ⟨ts, hts, rfl⟩ := Option.map_eq_some_iff.1 h
        obtain ⟨b, rfl, hU, hb⟩ := hr.ptr_inv
        have hbk := hb ch hg
        subst hbk
        obtain ⟨arr, h1, h2, h3, h4⟩ := hR.arr hg
        have hall := many hts (h4.drop off) (fun j x _ _ => hL rfl)
        refine .eptr (Γ.blk c) off ts (fun j => (arr[off + j]?).getD undef) (hL rfl c ch hg) ?_ ?_
        · intro j x hx
          obtain ⟨y, hy, _⟩ := hall.get hx
          rw [List.getElem?_drop, List.getElem?_take] at hy
          split at hy
          · have hy' : arr[off + j]? = some y := by simpa using hy
            rw [cell_of_arr h1, hy']; rfl
          · simp at hy
        · intro j x hx
          obtain ⟨y, hy, hxy⟩ := hall.get hx
          rw [List.getElem?_drop, List.getElem?_take] at hy
          split at hy
          · have hy' : arr[off + j]? = some y := by simpa using hy
            simp only [hy', Option.getD_some]; exact hxy
          · simp at hy
    | osl c off len esz lb =>
      simp only [frz] at h
      cases hg : hget Γ.H c with
      | none => simp [hg] at h
      | some ch =>
        simp only [hg] at h
        cases hle : Nat.ble (off + len * esz) ch.cells.length with
        | false => simp [hle] at h
        | true =>
          simp only [hle, cond_true] at h
          have hle' := Nat.le_of_ble_eq_true hle
          obtain ⟨ts, hts, rfl⟩ := Option.map_eq_some_iff.1 h
          obtain ⟨b, off', cap, rfl, hU, ho, hl, hlb, hb⟩ := hr.osl_inv
          obtain ⟨hbk, _⟩ := hb ch hg
          subst hbk
          obtain ⟨arr, h1, h2, h3, h4⟩ := hR.arr hg
          have hall := many hts ((h4.drop off).take (len * esz)) (fun j x _ _ => hL rfl)
          by_cases hl0 : len = 0
          · subst hl0
            have : ts = [] := by have := hall.1; simpa using this
            subst this
            exact .fnil _ cap
          have : off' = off := by rcases ho with h | h <;> omega
          subst this
          refine .fsl (Γ.blk c) off' len cap ts (fun j => (arr[off' + j]?).getD undef) (hL rfl c ch hg) hl ?_ ?_
          · intro j x hx
            obtain ⟨y, hy, _⟩ := hall.get hx
            rw [List.getElem?_take] at hy
            split at hy
            · rw [List.getElem?_drop, List.getElem?_take] at hy
              split at hy
              · have hy' : arr[off' + j]? = some y := by simpa using hy
                rw [cell_of_arr h1, hy']; rfl
              · simp at hy
            · simp at hy
          · intro j x hx
            obtain ⟨y, hy, hxy⟩ := hall.get hx
            rw [List.getElem?_take] at hy
            split at hy
            · rw [List.getElem?_drop, List.getElem?_take] at hy
              split at hy
              · have hy' : arr[off' + j]? = some y := by simpa using hy
                simp only [hy', Option.getD_some]; exact hxy
              · simp at hy
            · simp at hy
    | fn g caps =>
      simp only [frz] at h
      obtain ⟨ts, hts, rfl⟩ := Option.map_eq_some_iff.1 h
      obtain ⟨vs, rfl, l1, g1⟩ := hr.fn_inv
      have hall := many hts (All2.of_arr l1 g1) (fun j x hx hlx => by
        cases hl : live (.fn g caps) with
        | true => exact hL hl
        | false => simp only [live] at hl; rw [liveL_get hl hx] at hlx; simp at hlx)
      exact .fn g ts vs (by have := hall.1; simpa using this) (fun j a x h1 h2 => hall.2 j a x h1 (by simpa using h2))
    | agg cs =>
      simp only [frz] at h
      obtain ⟨ts, hts, rfl⟩ := Option.map_eq_some_iff.1 h
      obtain ⟨vs, rfl, l1, g1⟩ := hr.agg_inv
      have hall := many hts (All2.of_arr l1 g1) (fun j x hx hlx => by
        cases hl : live (.agg cs) with
        | true => exact hL hl
        | false => simp only [live] at hl; rw [liveL_get hl hx] at hlx; simp at hlx)
      exact .agg ts vs (by have := hall.1; simpa using this) (fun j a x h1 h2 => hall.2 j a x h1 (by simpa using h2))
    | tup cs =>
      simp only [frz] at h
      obtain ⟨ts, hts, rfl⟩ := Option.map_eq_some_iff.1 h
      obtain ⟨vs, rfl, l1, g1⟩ := hr.tup_inv
      have hall := many hts (All2.of_arr l1 g1) (fun j x hx hlx => by
        cases hl : live (.tup cs) with
        | true => exact hL hl
        | false => simp only [live] at hl; rw [liveL_get hl hx] at hlx; simp at hlx)
      exact .tup ts vs (by have := hall.1; simpa using this) (fun j a x h1 h2 => hall.2 j a x h1 (by simpa using h2))

/-- What a call comes to. -/
structure Back (Γ : Ctx) (id nx nx' : Nat) (r : AV) (H' : Heap) (v : Value) (Γ' : Ctx) : Prop where
  H : Γ'.H = H'
  ev : Ev Γ Γ'
  ok : HRel Γ'
  rl : RL Γ' r v
  U : ∀ c, Γ'.U c → Γ.U c ∨ c = id ∨ nx ≤ c
  lt : ∀ c, Γ'.U c → c = id ∨ c < nx'
  nx : nx ≤ nx'

def Ret (P : Program) (g : Nat) (vs : Array Value) (Γ : Ctx) (id nx nx' : Nat) (r : AV) (H' : Heap) : Prop :=
  Calls P g vs Γ.w fun e w' => ∃ v Γ', e = .returned v ∧ Γ'.w = w' ∧ Back Γ id nx nx' r H' v Γ'

/-- A function's body does what the interpreter says. -/
def RunOK (P : Program) (g : Nat) (f : AFun) (ex : Exec) : Prop :=
  ∀ (args : List AV) (H : Heap) (nx : Nat) (r : AV) (H' : Heap) (nx' : Nat), runF ex f args H nx = some (r, H', nx') → ∀ (Γ : Ctx) (vs : Array Value), Γ.H = H → HRel Γ → (∀ c, Γ.U c → c < nx) →
    All2 (RL Γ) args vs.toList → ∀ id, Ret P g vs Γ id nx nx' r H'

theorem hget_nil (c : Nat) : hget [] c = none := rfl

/-- A call whose memory is its own. -/
theorem own_ok {P : Program} {g : Nat} {f : AFun} {ex : Exec} (hrun : RunOK P g f ex) {Γ : Ctx} (hR : HRel Γ) {nx : Nat} (hU : ∀ c, Γ.U c → c < nx) {args args' : List AV} {vs : Array Value} (hargs : All2 (RL Γ) args vs.toList)
    (hv : mapO (frz false Γ.H depthA) args = some args') {r r' : AV} {H2 : Heap} {n2 : Nat} (h : runF ex f args' [] 0 = some (r, H2, n2)) (hr : frz (live.liveL args) H2 depthA r = some r') (id : Nat) :
    Ret P g vs Γ id nx nx r' Γ.H := by
  let F2 : Nat → Prop := fun b => bif live.liveL args then b < Γ.w.heap.size else Γ.F b
  let Γc : Ctx := { H := [], U := fun _ => False, blk := fun _ => 0, siz := fun _ => 0, F := F2, w := Γ.w }
  have hF2 : ∀ b, Γ.F b → F2 b := by
    intro b hb
    simp only [F2]
    cases live.liveL args
    · exact hb
    · exact hR.bnd b hb
  have hbnd : ∀ b, F2 b → b < Γ.w.heap.size := by
    intro b hb
    simp only [F2] at hb
    cases hl : live.liveL args <;> simp [hl] at hb
    · exact hR.bnd b hb
    · exact hb
  have hRc : HRel Γc := ⟨fun c ch h => by simp [Γc, hget] at h, fun c c' ch ch' h => by simp [Γc, hget] at h, fun c ch h => by simp [Γc, hget] at h, hbnd⟩
  have hargs' : All2 (RL Γc) args' vs.toList := by
    obtain ⟨k1, k2⟩ := mapO_some hv
    refine ⟨by rw [← k1]; exact hargs.1, fun j b x hb hx => ?_⟩
    obtain ⟨y, hy, hyb⟩ := k2 j b hb
    refine .tree (frz_ok hR (Fx := F2) (fun _ => hF2) depthA hyb (hargs.2 j y x hy hx) fun hl c ch hc => ?_)
    have : live.liveL args = true := by
      cases hll : live.liveL args with
      | true => rfl
      | false => rw [liveL_get hll hy] at hl; simp at hl
    simp only [F2, this, cond_true]
    obtain ⟨_, arr, h1, _⟩ := hR.ok c ch hc
    exact heap_lt h1
  have := hrun args' [] 0 r H2 n2 h Γc vs rfl hRc (fun c hc => hc.elim) hargs' 0
  refine this.mono ?_
  rintro e w' ⟨v, Γ', rfl, rfl, hb⟩
  obtain ⟨bH, bev, bok, brl, _, _, _⟩ := hb
  -- the blocks that the call made
  let F3 : Nat → Prop := fun b => Γ.w.heap.size ≤ b ∧ b < Γ'.w.heap.size
  have hold : ∀ b, b < Γ.w.heap.size → Γ'.w.heap[b]? = Γ.w.heap[b]? ∧ Γ'.free b := fun b hb => bev.frame b hb (fun c ch h => by simp [Γc, hget] at h)
  obtain ⟨e1, e2⟩ := ev_frozen hR Γ'.w F3 (fun b hb => hb) bev.size (fun b hb => (hold b hb).1) bev.os bev.tape bev.output
  refine ⟨v, { Γ with w := Γ'.w, F := fun b => Γ.F b ∨ F3 b }, rfl, rfl, ⟨rfl, e1, e2, ?_, fun c hc => .inl hc, fun c hc => .inr (hU c hc), Nat.le_refl _⟩⟩
  refine .tree ?_
  have hr' : frz (live.liveL args) Γ'.H depthA r = some r' := by rw [bH]; exact hr
  refine frz_ok bok (Fx := fun b => Γ.F b ∨ F3 b) (fun hfr b hb => ?_) depthA hr' brl (fun _ c ch hc => ?_)
  · rcases bev.Fnew b hb with hb' | hb'
    · have : F2 b := hb'
      simp only [F2, hfr, cond_false] at this
      exact .inl this
    · exact .inr ⟨hb', bok.bnd b hb⟩
  · obtain ⟨_, arr, h1, _⟩ := bok.ok c ch hc
    refine .inr ⟨?_, heap_lt h1⟩
    rcases Nat.lt_or_ge (Γ'.blk c) Γ.w.heap.size with hlt | hge
    · exact absurd rfl ((hold _ hlt).2 c ch hc)
    · exact hge

theorem RL.reH {Γ : Ctx} {a : AV} {v : Value} (h : RL Γ a v) (H' : Heap) : RL { Γ with H := H' } a v := by
  induction h with
  | tree h => exact .tree h
  | ptr c off b hU h => exact .ptr c off b hU h
  | osl c off len esz lb b off' cap hU h1 h2 h3 h => exact .osl c off len esz lb b off' cap hU h1 h2 h3 h
  | fn g caps vs hl hr ih => exact .fn g caps vs hl ih
  | agg cs vs hl hr ih => exact .agg cs vs hl ih
  | tup cs vs hl hr ih => exact .tup cs vs hl ih

/-- A call in the part of the memory that its arguments lead to. -/
theorem in_ok {P : Program} {g : Nat} {f : AFun} {ex : Exec} (hrun : RunOK P g f ex) {Γ : Ctx} (hR : HRel Γ) {nx : Nat} (hU : ∀ c, Γ.U c → c < nx) {args : List AV} {vs : Array Value} (hargs : All2 (RL Γ) args vs.toList)
    (ids keep : List Nat) {r : AV} {H2 : Heap} {nx' : Nat} (h : runF ex f args (hpart true ids Γ.H) nx = some (r, H2, nx')) (id : Nat) :
    Ret P g vs Γ id nx nx' r (hpart true keep H2 ++ hpart false ids Γ.H) := by
  let Γc : Ctx := { Γ with H := hpart true ids Γ.H }
  have hsub : ∀ c ch, hget Γc.H c = some ch → memN c ids = true ∧ hget Γ.H c = some ch := by
    intro c ch hc
    simp only [Γc, hget_hpart] at hc
    split at hc
    · rename_i hm; exact ⟨hm, hc⟩
    · simp at hc
  have hRc : HRel Γc := by
    refine ⟨fun c ch hc => ?_, fun c c' ch ch' h1 h2 he => hR.inj c c' ch ch' (hsub c ch h1).2 (hsub c' ch' h2).2 he, fun c ch hc => hR.sep c ch (hsub c ch hc).2, hR.bnd⟩
    obtain ⟨h1, arr, h2, h3, h4, h5⟩ := hR.ok c ch (hsub c ch hc).2
    exact ⟨h1, arr, h2, h3, h4, fun j a x ha hx => (h5 j a x ha hx).reH _⟩
  have := hrun args _ nx r H2 nx' h Γc vs rfl hRc hU (hargs.imp fun a x hx => hx.reH _) id
  refine this.mono ?_
  rintro e w' ⟨v, Γ', rfl, rfl, hb⟩
  obtain ⟨bH, bev, bok, brl, bU, blt, bnx⟩ := hb
  have hid : ∀ c ch, hget (hpart false ids Γ.H) c = some ch → memN c ids = false ∧ hget Γ.H c = some ch := by
    intro c ch hc
    rw [hget_hpart] at hc
    split at hc
    · rename_i hm; exact ⟨hm, hc⟩
    · simp at hc
  -- a hidden chunk's block is none of the callee's
  have hfree : ∀ c ch, hget (hpart false ids Γ.H) c = some ch → Γ.blk c < Γ.w.heap.size ∧ Γc.free (Γ.blk c) := by
    intro c ch hc
    obtain ⟨hm, hg⟩ := hid c ch hc
    obtain ⟨_, arr, h1, _⟩ := hR.ok c ch hg
    refine ⟨heap_lt h1, fun c' ch' hc' he => ?_⟩
    obtain ⟨hm', hg'⟩ := hsub c' ch' hc'
    have := hR.inj c' c ch' ch hg' hg he
    subst this
    rw [hm] at hm'; simp at hm'
  have hgm : ∀ c ch, hget (hpart true keep Γ'.H ++ hpart false ids Γ.H) c = some ch → hget Γ'.H c = some ch ∨ hget (hpart false ids Γ.H) c = some ch := by
    intro c ch hc
    rw [hget_append] at hc
    cases hg : hget (hpart true keep Γ'.H) c with
    | none => rw [hg] at hc; exact .inr hc
    | some x =>
      rw [hg] at hc
      rw [hget_hpart] at hg
      split at hg
      · rw [hg]; exact .inl hc
      · simp at hg
  have hUof : ∀ c ch, hget (hpart false ids Γ.H) c = some ch → Γ.U c := fun c ch hc => (hR.ok c ch (hid c ch hc).2).1
  refine ⟨v, { Γ' with H := hpart true keep Γ'.H ++ hpart false ids Γ.H }, rfl, rfl, ⟨by rw [← bH], ?_, ?_, brl.reH _, bU, blt, bnx⟩⟩
  · refine ⟨bev.U, ?_, bev.F, bev.Fnew, bev.size, ?_, bev.os, bev.tape, bev.output, bev.same⟩
    · intro c ch' hUc hc
      rcases hgm c ch' hc with hc | hc
      · obtain ⟨ch, h1, h2, h3⟩ := bev.keep c ch' hUc hc
        exact ⟨ch, (hsub c ch h1).2, h2, h3⟩
      · exact ⟨ch', (hid c ch' hc).2, bev.same c hUc⟩
    · intro b hb hf
      obtain ⟨k1, k2⟩ := bev.frame b hb (fun c ch hc => hf c ch (hsub c ch hc).2)
      refine ⟨k1, fun c ch hc => ?_⟩
      rcases hgm c ch hc with hc | hc
      · exact k2 c ch hc
      · show Γ'.blk c ≠ b
        rw [(bev.same c (hUof c ch hc)).1]
        exact hf c ch (hid c ch hc).2
  · refine ⟨fun c ch hc => ?_, fun c c' ch ch' hc hc' he => ?_, fun c ch hc hF => ?_, bok.bnd⟩
    · rcases hgm c ch hc with hc | hc
      · obtain ⟨h1, arr, h2, h3, h4, h5⟩ := bok.ok c ch hc
        exact ⟨h1, arr, h2, h3, h4, fun j a x ha hx => (h5 j a x ha hx).reH _⟩
      · obtain ⟨h1, arr, h2, h3, h4, h5⟩ := hR.ok c ch (hid c ch hc).2
        obtain ⟨k1, k2⟩ := hfree c ch hc
        refine ⟨bev.U c h1, arr, ?_, h3.trans (bev.same c h1).2.symm, h4, fun j a x ha hx => (((h5 j a x ha hx).reH _).ev hRc bev).reH _⟩
        show Γ'.w.heap[Γ'.blk c]? = _
        rw [(bev.same c h1).1]
        exact (bev.frame _ k1 k2).1.trans h2
    · have he : Γ'.blk c = Γ'.blk c' := he
      rcases hgm c ch hc with hc | hc <;> rcases hgm c' ch' hc' with hc' | hc'
      · exact bok.inj c c' ch ch' hc hc' he
      · rw [(bev.same c' (hUof c' ch' hc')).1] at he
        obtain ⟨k1, k2⟩ := hfree c' ch' hc'
        exact absurd he ((bev.frame _ k1 k2).2 c ch hc)
      · rw [(bev.same c (hUof c ch hc)).1] at he
        obtain ⟨k1, k2⟩ := hfree c ch hc
        exact absurd he.symm ((bev.frame _ k1 k2).2 c' ch' hc')
      · rw [(bev.same c (hUof c ch hc)).1, (bev.same c' (hUof c' ch' hc')).1] at he
        exact hR.inj c c' ch ch' (hid c ch hc).2 (hid c' ch' hc').2 he
    · rcases hgm c ch hc with hc | hc
      · exact bok.sep c ch hc hF
      · have hF : Γ'.F (Γ'.blk c) := hF
        rw [(bev.same c (hUof c ch hc)).1] at hF
        rcases bev.Fnew _ hF with hF | hF
        · exact hR.sep c ch (hid c ch hc).2 hF
        · have := (hfree c ch hc).1
          have : Γ.w.heap.size ≤ Γ.blk c := hF
          omega

end Go.Am

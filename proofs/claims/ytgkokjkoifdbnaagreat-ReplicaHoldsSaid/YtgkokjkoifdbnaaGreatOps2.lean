import Derived.Test.YtgkokjkoifdbnaaGreatOps1
import Derived.Laws.StructEq
/- Arithmetic, comparisons, structs, slices' places. -/
namespace Go.Am
set_option autoImplicit false
set_option linter.unusedSimpArgs false
set_option linter.unusedVariables false

theorem bin_ok {P : Program} {op : BinOp} {t : TypeId} {x y : Operand} {a b r : Value} (h : abin op a b = some r) (w : World) :
    (do eqGuard op t x y a b; binOp op t a b : Sem Value).run P w = .ok r w := by
  cases a with
  | int k n =>
    rw [eqGuard_at_int]
    cases b with
    | int k' m =>
      cases op <;> simp only [abin] at h
      all_goals first
        | (split at h
           · simp at h
           · rename_i hk
             first
             | (split at h
                · simp at h
                · rename_i hz
                  have hk' : k = k' := by simpa using hk
                  subst hk'
                  simp only [Option.some.injEq] at h; subst h
                  simp [binOp, Op.intDiv, hz])
             | (have hk' : k = k' := by simpa using hk
                subst hk'
                simp only [Option.some.injEq] at h; subst h
                simp [binOp, Op.intArith, Op.intBits, Op.intCmp])
             | (simp only [Option.some.injEq] at h; subst h
                simp [binOp, Op.shift, hk, Nat.min_def]))
        | (simp at h; done)
    | _ => simp [abin] at h
  | string s =>
    rw [eqGuard_at_string]
    cases b with
    | string s' =>
      cases op <;> simp only [abin, Option.some.injEq] at h <;> first | (simp at h; done) | skip
      all_goals (subst h; simp [binOp, Op.stringOp, ByteArray.toList_eq])
    | _ => simp [abin] at h
  | _ => simp [abin] at h

theorem beq_ok {P : Program} {t : TypeId} (hu : P.underlying t = some .bool) (a b : Bool) (x y : Operand) (w : World) :
    (do eqGuard .eql t x y (.bool a) (.bool b); binOp .eql t (.bool a) (.bool b) : Sem Value).run P w = .ok (.bool (a == b)) w ∧
    (do eqGuard .neq t x y (.bool a) (.bool b); binOp .neq t (.bool a) (.bool b) : Sem Value).run P w = .ok (.bool (!(a == b))) w := by
  rw [eqGuard_at_bool, eqGuard_at_bool]
  constructor <;> simp [binOp, Op.equal, Op.maxDepth, run_equalIn_bool' (P := P) w 9999 t a b hu]

theorem un_ok {P : Program} {op : UnOp} {a r : Value} (h : aun op a = some r) (w : World) : (Op.unary op a).run P w = .ok r w := by
  cases op <;> cases a <;> simp only [aun, Option.some.injEq] at h <;> first | (simp at h; done) | (subst h; simp [Op.unary, Op.intArith, Op.intBits])

end Go.Am

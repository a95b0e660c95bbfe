/-
The value machine, part 7: operations that only reckon.
-/
import Derived.Test.YtglemgdlkddjhaaVm6
import Derived.Laws.Strings
namespace Go.Proofs.Ytglemgdlkddjhaa.Vm
open Go

/-- The operation is done, and left a value of which R holds. -/
def Done (r : Result Next) (R : Value → World → Prop) : Prop :=
  (∃ c w', r = .ok (.value c) w' ∧ R c w') ∨ ∃ w', r = .ok .skip w' ∧ R undef w'

def DoneV (r : Result Value) (R : Value → World → Prop) : Prop := ∃ c w', r = .ok c w' ∧ R c w'

theorem DoneV.ok {c : Value} {w' : World} {R : Value → World → Prop} (h : R c w') : DoneV (.ok c w') R := ⟨c, w', rfl, h⟩

section
variable {P : Program} {w : World} {G : Gh} {own : Nat → Option Place} {H : Heap}

theorem RepL.int_inv {k : IntKind} {n : Int} {vs : List V} {cs : List Value} {bl : List Nat} (h : RepL w G (.int k n :: vs) cs bl) : ∃ cs', cs = .int k n :: cs' ∧ RepL w G vs cs' bl := by
  cases h with
  | imm _ c h1 h => cases h1 with | int k n _ => exact ⟨_, rfl, h⟩
theorem RepL.bool_inv {b : Bool} {vs : List V} {cs : List Value} {bl : List Nat} (h : RepL w G (.bool b :: vs) cs bl) : ∃ cs', cs = .bool b :: cs' ∧ RepL w G vs cs' bl := by
  cases h with
  | imm _ c h1 h => cases h1 with | bool b _ => exact ⟨_, rfl, h⟩
theorem RepL.str_inv {s : List UInt8} {vs : List V} {cs : List Value} {bl : List Nat} (h : RepL w G (.str s :: vs) cs bl) : ∃ (b : ByteArray) (cs' : List Value), s = b.data.toList ∧ cs = .string b :: cs' ∧ RepL w G vs cs' bl := by
  cases h with
  | imm _ c h1 h => cases h1 with | str b _ => exact ⟨b, _, rfl, rfl, h⟩
theorem RepI.mkStr {imm : Nat → Nat → Option Value} (b : ByteArray) {s : List UInt8} (h : b.data.toList = s) : RepI imm [.str s] [.string b] := by
  rw [← h]; exact .str b .nil

theorem binInt_post (hok : Ok w G own H) {op : BinOp} {k : IntKind} {a b : Int} {v : V} (h : binInt op k a b = some v) (t : TypeId) (x y : Operand) :
    DoneV ((do eqGuard op t x y (.int k a) (.int k b); binOp op t (.int k a) (.int k b) : Sem Value).run P w) (Post w G own v H) := by
  have hg : (eqGuard op t x y (.int k a) (.int k b)).run P w = .ok () w := by
    unfold eqGuard; split <;> rfl
  rw [Sem.run_bind, hg, Result.andThen_ok]
  unfold binInt at h
  cases op <;> simp only [reduceCtorEq] at h <;> simp [binOp, Op.intArith, Op.intDiv, Op.intCmp]
  all_goals first
    | (cases h; exact .ok (post_plain hok (.int _ _ .nil)))
    | (cases h; exact .ok (post_plain hok (.bool _ .nil)))
    | (split at h
       · cases h
       · rename_i hb
         cases h
         rw [if_neg hb]
         exact .ok (post_plain hok (.int _ _ .nil)))

theorem binStr_post (hok : Ok w G own H) {op : BinOp} {a b : ByteArray} {v : V} (h : binStr op a.data.toList b.data.toList = some v) (t : TypeId) (x y : Operand) :
    DoneV ((do eqGuard op t x y (.string a) (.string b); binOp op t (.string a) (.string b) : Sem Value).run P w) (Post w G own v H) := by
  have hg : (eqGuard op t x y (.string a) (.string b)).run P w = .ok () w := by
    unfold eqGuard; split <;> rfl
  rw [Sem.run_bind, hg, Result.andThen_ok]
  unfold binStr at h
  have hs : ∀ c : ByteArray, c.data.toList.length = c.size := fun c => by rw [Array.length_toList]; rfl
  cases op <;> simp only [reduceCtorEq] at h <;> simp only [binOp, Op.stringOp, ByteArray.toList_eq, Sem.run_pure, Sem.run_ite]
  all_goals first
    | (cases h; exact .ok (post_plain hok (.bool _ .nil)))
    | (split at h
       · rename_i hb
         cases h
         rw [hs, hs] at hb
         have : IntKind.i64.max = 9223372036854775807 := by decide
         rw [if_neg (by rw [this]; omega)]
         exact .ok (post_plain hok (.mkStr _ (by simp)))
       · cases h)

theorem equal_bool {t : TypeId} (ht : P.underlying t = some .bool) (a b : Bool) : (Op.equal t (.bool a) (.bool b)).run P w = .ok (a == b) w := by
  have h : ∀ d, (Op.equalIn (d + 1) t (.bool a) (.bool b)).run P w = .ok (a == b) w := by
    intro d
    simp [Op.equalIn, run_underlying ht]
  exact h 9999

theorem eqBool_post (hok : Ok w G own H) {ne : Bool} {t : TypeId} (ht : P.underlying t = some .bool) (a b : Bool) (x y : Operand) :
    DoneV ((do eqGuard (if ne then .neq else .eql) t x y (.bool a) (.bool b); binOp (if ne then .neq else .eql) t (.bool a) (.bool b) : Sem Value).run P w) (Post w G own (.bool ((a == b) != ne)) H) := by
  have hg : ∀ op, (eqGuard op t x y (.bool a) (.bool b)).run P w = .ok () w := by
    intro op; unfold eqGuard; split <;> rfl
  rw [Sem.run_bind, hg, Result.andThen_ok]
  cases ne <;> simp [binOp, equal_bool ht] <;> exact .ok (post_plain hok (.bool _ .nil))

theorem neg_post (hok : Ok w G own H) (k : IntKind) (n : Int) : DoneV ((Op.unary .neg (.int k n)).run P w) (Post w G own (.int k (k.wrap (0 - n))) H) := by
  simp [Op.unary, Op.intArith]; exact .ok (post_plain hok (.int _ _ .nil))
theorem not_post (hok : Ok w G own H) (b : Bool) : DoneV ((Op.unary .not (.bool b)).run P w) (Post w G own (.bool !b) H) := by
  simp [Op.unary]; exact .ok (post_plain hok (.bool _ .nil))

theorem conv_post (hok : Ok w G own H) {s d : TypeId} {k : IntKind} {ds : TypeDesc} (hs : P.underlying s = some ds) (hd : P.underlying d = some (.int k)) (j : IntKind) (n : Int) :
    DoneV ((convert s d (.int j n)).run P w) (Post w G own (.int k (k.wrap n)) H) := by
  simp [convert, run_underlying hs, run_underlying hd, Conv.intToInt]; exact .ok (post_plain hok (.int _ _ .nil))

theorem same_post (hok : Ok w G own H) {s d : TypeId} {ds : TypeDesc} (hs : P.underlying s = some ds) (hd : P.underlying d = some .string) (b : ByteArray) :
    DoneV ((convert s d (.string b)).run P w) (Post w G own (.str b.data.toList) H) := by
  simp [convert, run_underlying hs, run_underlying hd]
  exact .ok (post_plain hok (.str _ .nil))

def isNilC : Value → Bool
  | .pointer none | .map none | .slice none _ _ | .nilFunc => true
  | _ => false

theorem nil_eq {t : TypeId} (c n : Value)
    (h : (∃ e, P.underlying t = some (.pointer e) ∧ n = .pointer none ∧ ∃ a, c = .pointer a) ∨ (∃ k e, P.underlying t = some (.map k e) ∧ n = .map none ∧ ∃ a, c = .map a) ∨
      (∃ e, P.underlying t = some (.slice e) ∧ n = .slice none 0 0 ∧ ∃ a l k, c = .slice a l k) ∨ (∃ a b v, P.underlying t = some (.func a b v) ∧ n = .nilFunc ∧ (c = .nilFunc ∨ ∃ f x y, c = .func f x y))) :
    (Op.equal t c n).run P w = .ok (isNilC c) w := by
  have hd : ∀ d, (Op.equalIn (d + 1) t c n).run P w = .ok (isNilC c) w := by
    intro d
    rcases h with ⟨e, ht, rfl, a, rfl⟩ | ⟨k, e, ht, rfl, a, rfl⟩ | ⟨e, ht, rfl, a, l, k, rfl⟩ | ⟨a, b, v, ht, rfl, h⟩
    · cases a <;> simp [Op.equalIn, run_underlying ht, isNilC]
    · cases a <;> simp [Op.equalIn, run_underlying ht, isNilC]
    · cases a <;> simp [Op.equalIn, run_underlying ht, isNilC]
    · rcases h with rfl | ⟨f, x, y, rfl⟩ <;> simp [Op.equalIn, run_underlying ht, isNilC]
  exact hd 9999

def nilFits (P : Program) (t : TypeId) : Value → Bool
  | .pointer none => (match P.underlying t with | some (.pointer _) => true | _ => false)
  | .map none => (match P.underlying t with | some (.map _ _) => true | _ => false)
  | .slice none 0 0 => (match P.underlying t with | some (.slice _) => true | _ => false)
  | .nilFunc => (match P.underlying t with | some (.func _ _ _) => true | _ => false)
  | _ => false

end
end Go.Proofs.Ytglemgdlkddjhaa.Vm

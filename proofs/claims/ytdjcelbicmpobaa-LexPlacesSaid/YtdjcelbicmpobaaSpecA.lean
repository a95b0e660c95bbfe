/- What the lexer tells, as plain functions of lists of bytes: blanks, classes, runs, kinds, numbers, places, tokens. No program in sight. -/
import Derived.Test.YtdjcelbicmpobaaH0
import Derived.Lib.Strings
namespace Go.Proofs.Ytdjcelbicmpobaa.Lx
open Go.RowKit Go.Proofs.YtdjcelbicmpobaaW.PrintWords Go.Proofs.YtdjcelbicmpobaaW.PrintLast Go.Proofs.Ytdjcelbicmpobaa.H

abbrev L := List UInt8
/-- A string's bytes. -/
def dat (s : ByteArray) : L := s.data.toList
/-- The string of some bytes. -/
def str (l : L) : ByteArray := ⟨l.toArray⟩
theorem dat_str (l : L) : dat (str l) = l := by simp [dat, str]
theorem str_dat (s : ByteArray) : str (dat s) = s := by cases s; rfl
theorem dat_length (s : ByteArray) : (dat s).length = s.size := Array.length_toList
theorem size_str (l : L) : (str l).size = l.length := List.size_toArray
theorem dat_inj {s t : ByteArray} (h : dat s = dat t) : s = t := by rw [← str_dat s, ← str_dat t, h]
theorem toList_dat (s : ByteArray) : s.toList = dat s := Lib.toList_data s

theorem dat_append (s t : ByteArray) : dat (s ++ t) = dat s ++ dat t := by
  simp [dat, ByteArray.data_append]
theorem dat_extract (s : ByteArray) (a b : Nat) : dat (s.extract a b) = ((dat s).drop a).take (b - a) := by
  simp [dat, ByteArray.data_extract]

/-- The byte that stands at i, out of what is left from i on. -/
theorem bt_of_drop {s : ByteArray} {i : Nat} {c : UInt8} {r : L} (h : (dat s).drop i = c :: r) : i < s.size ∧ bt s (i : Int) = (c.toNat : Int) ∧ (dat s).drop (i + 1) = r := by
  have hl : i < (dat s).length := by
    rcases Nat.lt_or_ge i (dat s).length with hlt | hge
    · exact hlt
    · rw [List.drop_eq_nil_of_le hge] at h; cases h
  have hd := List.drop_eq_getElem_cons hl
  rw [h] at hd
  injection hd with h1 h2
  have hs : i < s.size := by rw [← dat_length]; exact hl
  refine ⟨hs, ?_, h2.symm⟩
  unfold bt
  rw [dif_pos (by simpa using hs)]
  simp only [Int.toNat_natCast]
  rw [h1]
  rfl
theorem drop_nil {s : ByteArray} {i : Nat} (h : (dat s).drop i = []) (hi : i ≤ s.size) : i = s.size := by
  have := congrArg List.length h
  rw [List.length_drop, dat_length] at this
  simp at this
  omega
theorem drop_len {s : ByteArray} {i : Nat} {l : L} (h : (dat s).drop i = l) (hi : i ≤ s.size) : i + l.length = s.size := by
  have := congrArg List.length h
  rw [List.length_drop, dat_length] at this
  omega

theorem w64 {x : Int} (h0 : -1000000000000000000 ≤ x) (h1 : x ≤ 1000000000000000000) : wrap64 x = x := by
  unfold wrap64
  omega

/-! ### Blanks -/
/-- How many bytes stand ahead of the line's end. -/
def eolN : L → Nat
  | [] => 0
  | c :: r => if c = 10 then 0 else eolN r + 1
theorem eolN_le : ∀ l, eolN l ≤ l.length
  | [] => Nat.le_refl _
  | c :: r => by
    have := eolN_le r
    simp only [eolN]
    split <;> simp <;> omega

/-- How many bytes of blanks and remarks some bytes begin with. -/
def blankN (l : L) : Nat :=
  match l with
  | [] => 0
  | c :: r => if c = 32 ∨ c = 10 then blankN r + 1 else if c = 45 ∧ r.head? = some 45 then (eolN r + 1) + blankN (r.drop (eolN r)) else 0
termination_by l.length
decreasing_by
  · simp
  · simp; omega
theorem blankN_nil : blankN [] = 0 := by rw [blankN]
theorem blankN_blank {c : UInt8} {r : L} (h : c = 32 ∨ c = 10) : blankN (c :: r) = blankN r + 1 := by rw [blankN, if_pos h]
theorem blankN_remark {r : L} (h : r.head? = some 45) : blankN (45 :: r) = (eolN r + 1) + blankN (r.drop (eolN r)) := by
  rw [blankN, if_neg (by decide), if_pos ⟨rfl, h⟩]
theorem blankN_none {c : UInt8} {r : L} (h : ¬ (c = 32 ∨ c = 10)) (h2 : ¬ (c = 45 ∧ r.head? = some 45)) : blankN (c :: r) = 0 := by
  rw [blankN, if_neg h, if_neg h2]
theorem blankN_le : ∀ (n : Nat) (l : L), l.length ≤ n → blankN l ≤ l.length
  | _, [], _ => by rw [blankN_nil]; simp
  | 0, _ :: _, h => by simp at h
  | n + 1, c :: r, h => by
    simp only [List.length_cons] at h ⊢
    rw [blankN]
    split
    · have := blankN_le n r (by omega); omega
    · split
      · have := blankN_le n (r.drop (eolN r)) (by simp; omega)
        have := eolN_le r
        simp at *
        omega
      · omega

/-! ### Places -/
def step (p : Int × Int) (c : UInt8) : Int × Int := if c = 10 then (p.1 + 1, 1) else (p.1, p.2 + 1)
def adv (p : Int × Int) (l : L) : Int × Int := l.foldl step p
theorem adv_nil (p : Int × Int) : adv p [] = p := rfl
theorem adv_cons (p : Int × Int) (c : UInt8) (l : L) : adv p (c :: l) = adv (step p c) l := rfl
theorem adv_append (p : Int × Int) (a b : L) : adv p (a ++ b) = adv (adv p a) b := List.foldl_append ..
theorem adv_plain {p : Int × Int} : ∀ {l : L}, (∀ c ∈ l, c ≠ 10) → adv p l = (p.1, p.2 + l.length) := by
  intro l
  induction l generalizing p with
  | nil => intro _; simp [adv_nil]
  | cons c r ih =>
    intro h
    rw [adv_cons, ih (fun x hx => h x (by simp [hx]))]
    simp only [step, if_neg (h c (by simp)), List.length_cons]
    refine Prod.ext rfl ?_
    show p.2 + 1 + (r.length : Int) = p.2 + ((r.length + 1 : Nat) : Int)
    omega

/-! ### Classes -/
def isSign (n : Nat) : Bool := [33, 35, 36, 37, 38, 42, 43, 46, 47, 58, 60, 61, 62, 63, 64, 94, 124, 126, 45].contains n
def cls (n : Nat) : Int :=
  if 97 ≤ n ∧ n ≤ 122 ∨ n = 95 then 1 else if 65 ≤ n ∧ n ≤ 90 then 2 else if 48 ≤ n ∧ n ≤ 57 then 3 else if n = 40 ∨ n = 41 ∨ n = 123 ∨ n = 125 ∨ n = 59 ∨ n = 92 then 4 else if isSign n then 5 else 0
/-- Does a token that began so go on with a byte? -/
def goes (k : Int) (n : Nat) : Bool :=
  if k = 1 ∨ k = 2 then cls n == 1 || cls n == 2 || cls n == 3 || n == 39 else if k = 3 ∨ k = 5 then cls n == k else false
def runL (k : Int) (l : L) : L := l.takeWhile (fun c => goes k c.toNat)
def tokLen : L → Nat
  | [] => 0
  | c :: r => if cls c.toNat = 0 then 0 else (runL (cls c.toNat) r).length + 1
theorem runL_le (k : Int) (l : L) : (runL k l).length ≤ l.length := (List.takeWhile_sublist _).length_le
theorem tokLen_le (l : L) : tokLen l ≤ l.length := by
  cases l with
  | nil => simp [tokLen]
  | cons c r =>
    have := runL_le (cls c.toNat) r
    simp only [tokLen]
    split <;> simp <;> omega
theorem runL_take (k : Int) (l : L) : l.take (runL k l).length = runL k l := by
  induction l with
  | nil => rfl
  | cons c r ih =>
    unfold runL at *
    rw [List.takeWhile_cons]
    split
    · simp only [List.length_cons, List.take_succ_cons]; rw [ih]
    · rfl

/-! ### Kinds -/
def words : List L := [[100, 97, 116, 97], [105, 110, 102, 105, 120, 108], [105, 110, 102, 105, 120, 114], [105, 110, 102, 105, 120], [108, 101, 116], [105, 110], [99, 97, 115, 101], [111, 102], [105, 102], [116, 104, 101, 110], [101, 108, 115, 101]]
def isWord (t : L) : Bool := words.contains t
def kindS (b : Int) (t : L) : Int :=
  if b = 2 then 2 else if b = 3 then 4 else if b = 5 then (if t = [61] ∨ t = [124] ∨ t = [45, 62] then 5 else 3) else if b = 1 then (if t = [95] then 5 else if isWord t then 6 else 1) else 5

/-! ### Numbers -/
def leastL : L := [57, 50, 50, 51, 51, 55, 50, 48, 51, 54, 56, 53, 52, 55, 55, 53, 56, 48, 56]
def numv (t : L) : Nat := t.foldl (fun u c => u * 10 + (c.toNat - 48)) 0
/-- What the digits of a token come to: a number, or an error. -/
def valS (t : L) : Int × Int :=
  if t = leastL then (-9223372036854775808, 0)
  else if t.length > 19 ∨ (t.head? = some 48 ∧ t.length > 1) ∨ numv t > 9223372036854775807 then (0, 11) else ((numv t : Int), 0)

/-! ### Tokens -/
def tok (k : Int) (t : L) (n : Int) (p : Int × Int) : S34 := ⟨k, str t, n, ⟨p.1, p.2⟩, false⟩
def errOf (k : Int) (t : L) (n : Nat) : Int :=
  let e := if k = 4 then (valS t).2 else if t.length > 32 then 2 else 0
  if e = 0 ∧ n ≥ 2048 then 2 else e
def toks (p : Int × Int) (n : Nat) (l : L) : List S34 × Int × Int × Int :=
  match h : l.drop (blankN l) with
  | [] => ([], 0, 0, 0)
  | c :: r =>
    let p1 := adv p (l.take (blankN l))
    if hc : cls c.toNat = 0 then ([], 20, p1.1, p1.2)
    else
      let t := (c :: r).take (tokLen (c :: r))
      let k := kindS (cls c.toNat) t
      if errOf k t n = 0 then
        let q := toks (adv p1 t) (n + 1) ((c :: r).drop (tokLen (c :: r)))
        (if q.2.1 = 0 then tok k t (if k = 4 then (valS t).1 else 0) p1 :: q.1 else [], q.2)
      else ([], errOf k t n, p1.1, p1.2)
termination_by l.length
decreasing_by
  have hl := congrArg List.length h
  simp only [List.length_drop, List.length_cons, tokLen, hc, if_false] at hl ⊢
  omega

end Go.Proofs.Ytdjcelbicmpobaa.Lx

/-
The program's lexer, part 1: skip, remark.
The program's lexer, part 2: classes, keywords, kinds, numbers.
The program's lexer, part 3: keywords, kinds, numbers.
The program's lexer, part 4: numbers.
The program's lexer, part 5: the token that begins here.
The program's lexer, part 6: all tokens.
Programs as the language has them, part 2b: how cells are looked at.
The value machine, part 37: functions at the empty heap that answer several things.
The program's lexer, part 7: the token that a text is.
The reference's numbers: digits, texts, numbers of texts.
The reference's lexer: bytes, lengths, kinds, blanks, places.
The reference's lexer, part 2: blanks, places, faults.
What may be written: names, patterns, types, expressions, programs.
Programs as the language has them, part 2c: calls, wrapped.
Which patterns and types may be: the program's and the reference's functions.
Which expressions may be: the program's functions.
Which expressions may be: the reference's functions.
The value machine, part 38: functions at any heap; maps with texts as keys.
Closed terms: how they stand in memory; which expressions are terms (plain).
Closed terms: which are the same.
Closed terms: how wide they are; which may be; their sizes.
Closed terms: their sizes.
Closed terms: the sizes that are answered.
Closed terms: the expressions that they are.
-/
import Derived.Test.YtoaohapbbnpbeaaGreatU0
import Derived.Test.YtoaohapbbnpbeaaGreatU3
import Derived.Test.YtoaohapbbnpbeaaGreatU2
set_option linter.unusedVariables false
set_option linter.unusedSimpArgs false
set_option linter.constructorNameAsVariable false
namespace Go.Proofs.YtoaohapbbnpbeaaGreat.Vm
open Go Lx
set_option linter.unusedSimpArgs false

section
variable {P : Program} {K : KK} {s : List Fr} {E : En} {H : Heap} {tk : List Nat} {dst : Option Nat} {os : List VOp} {keep : List Nat}
@[go_sem] theorem run_indexStr {x : List UInt8} {k : IntKind} {i : Int} : runAct P .indexStr [.str x, .int k i] tk dst os keep s E H K =
    (0 ≤ i ∧ ∃ b, x[i.toNat]? = some b ∧ runOps P os keep s ((stripEn tk E).setO dst (.int .u8 b.toNat)) H K) := (rfl)
@[go_sem] theorem run_lenStr {x : List UInt8} : runAct P .lenStr [.str x] tk dst os keep s E H K = runOps P os keep s ((stripEn tk E).setO dst (.int .i64 x.length)) H K := (rfl)
theorem run_sliceStr {x : List UInt8} {j k : IntKind} {a b : Int} : runAct P (.sliceStr true true) [.str x, .int j a, .int k b] tk dst os keep s E H K =
    ((0 ≤ a ∧ a ≤ b ∧ b ≤ x.length) ∧ nextV P (.str ((x.take b.toNat).drop a.toNat)) tk dst os keep s E H K) := by
  show (∃ r H', sSliceStr true true [.str x, .int j a, .int k b] H = some (r, H') ∧ _) = _
  apply propext
  constructor
  · rintro ⟨r, H', h, k⟩
    simp only [sSliceStr, bounds, Bool.true_and, decide_eq_true_eq] at h
    obtain ⟨p, h1, h2⟩ := Option.map_eq_some_iff.1 h
    split at h1
    · rename_i hc; cases h1; cases h2; exact ⟨hc, k⟩
    · cases h1
  · rintro ⟨hc, k⟩
    refine ⟨_, _, ?_, k⟩
    simp only [sSliceStr, bounds, Bool.true_and, decide_eq_true_eq]
    rw [if_pos hc]; rfl
theorem run_sliceStrL {x : List UInt8} {j : IntKind} {a : Int} : runAct P (.sliceStr true false) [.str x, .int j a] tk dst os keep s E H K =
    ((0 ≤ a ∧ a ≤ x.length) ∧ nextV P (.str (x.drop a.toNat)) tk dst os keep s E H K) := by
  show (∃ r H', sSliceStr true false [.str x, .int j a] H = some (r, H') ∧ _) = _
  apply propext
  constructor
  · rintro ⟨r, H', h, k⟩
    simp only [sSliceStr, bounds, Bool.not_false, Bool.and_self, if_true] at h
    obtain ⟨p, h1, h2⟩ := Option.map_eq_some_iff.1 h
    split at h1
    · rename_i hc; cases h1; cases h2; rw [List.take_of_length_le (Nat.le_refl _)] at k; exact ⟨hc, k⟩
    · cases h1
  · rintro ⟨hc, k⟩
    refine ⟨_, _, ?_, k⟩
    simp only [sSliceStr, bounds, Bool.not_false, Bool.and_self, if_true]
    rw [if_pos hc]; simp [List.take_of_length_le (Nat.le_refl _)]
end
theorem gc_self {H : Heap} {i v : Nat} {cs : List V} (h : getCells H i v = some cs) : H.set i (.cells v cs) = H := by
  apply List.ext_getElem?
  intro j
  rw [List.getElem?_set]
  split
  · rename_i e; subst e; rw [if_pos (gc_lt h), gc_some.1 h]
  · rfl
theorem idsO_set {H : Heap} {id : Nat} {o : Obj} (ho : idsO H.length o = true) : ∀ (i : Nat) (ob : Obj), (H.set id o)[i]? = some ob → H[i]? = some ob ∨ idsO (H.set id o).length ob = true := by
  intro i ob hi
  rw [List.length_set]
  rw [List.getElem?_set] at hi
  split at hi
  · split at hi
    · cases hi; exact .inr ho
    · cases hi
  · exact .inl hi

/-- The reader's cells. -/
def rdC (src : List UInt8) (i : Nat) (ln co : Int) : List V := [.str src, .int .i64 i, .int .i64 ln, .int .i64 co]
structure RdI (n i : Nat) (ln co : Int) : Prop where
  b : i ≤ n
  l1 : 1 ≤ ln
  l2 : ln ≤ i + 1
  c1 : 1 ≤ co
  c2 : co ≤ i + 1
theorem rd_ids (m : Nat) (src : List UInt8) (i : Nat) (ln co : Int) : idsO m (.cells 0 (rdC src i ln co)) = true := rfl
theorem endY_set {H : Heap} {id : Nat} {cs : List V} (ho : idsO H.length (.cells 0 cs) = true) {R : V → Heap → Prop} {x : X} {E : En} (hx : (match x with | .exit _ => False | _ => True)) (hR : R (.tup []) (H.set id (.cells 0 cs))) : endY H [] R x E (H.set id (.cells 0 cs)) :=
  ⟨hx, by simp, idsO_set ho, _, rfl, _, rfl, hR⟩
theorem endY_setB {H : Heap} {id : Nat} {cs : List V} (ho : idsO H.length (.cells 0 cs) = true) {R : V → Heap → Prop} {x : X} {l : List (Nat × V)} {d : V} {t : Nat} {b : Bool} (hx : (match x with | .exit _ => False | _ => True)) (hv : getE l d t = .bool b) (hR : R (.bool b) (H.set id (.cells 0 cs))) : endY H [.tmp t] R x ⟨l, d⟩ (H.set id (.cells 0 cs)) :=
  ⟨hx, by simp, idsO_set ho, .bool b, by simp [resV, resL, res1, pack, En.f, hv], _, rfl, hR⟩

theorem u8_eq {b : UInt8} {n : Nat} (hn : n < 256) : ((b.toNat : Int) = (n : Int)) ↔ b = UInt8.ofNat n := by
  constructor
  · intro h
    have : b.toNat = n := by omega
    rw [← this]; simp
  · rintro rfl
    simp; omega
theorem get_lt {src : List UInt8} {i : Nat} (h : i < src.length) : ∃ b, src[i]? = some b := ⟨_, List.getElem?_eq_getElem h⟩

theorem inc64' {i : Nat} (h : i < 4611686018427387904) : IntKind.i64.wrap ((i : Int) + 1) = ((i + 1 : Nat) : Int) := by
  rw [wrap64 (by omega) (by omega)]; rfl
theorem drop_get {α : Type} {l : List α} {i : Nat} {b : α} (h : l[i]? = some b) : l.drop i = b :: l.drop (i + 1) := by
  obtain ⟨h1, h2⟩ := List.getElem?_eq_some_iff.1 h
  rw [List.drop_eq_getElem_cons h1, h2]
theorem adv_eol (p : Int × Int) : ∀ l : L, adv p (l.take (eolN l)) = (p.1, p.2 + eolN l)
  | [] => by simp [eolN, adv_nil]
  | c :: r => by
    simp only [eolN]
    split
    · simp [adv_nil]
    · rename_i hc
      rw [List.take_succ_cons, adv_cons, adv_eol _ r]
      unfold Lx.step
      rw [if_neg hc]
      refine Prod.ext rfl ?_
      show p.2 + 1 + (eolN r : Int) = p.2 + ((eolN r + 1 : Nat) : Int)
      omega
theorem lexRemark_T {H : Heap} {id : Nat} {src : List UInt8} {i : Nat} {ln co : Int} (h : getCells H id 0 = some (rdC src i ln co)) (hr : RdI src.length i ln co) (hn : src.length ≤ 8192) :
    T Tryz.prog 149 [.ptr id 0 0] H (.tup []) (H.set id (.cells 0 (rdC src (i + eolN (src.drop i)) ln (co + eolN (src.drop i))))) := by
  have key : ∀ R : V → Heap → Prop, R (.tup []) (H.set id (.cells 0 (rdC src (i + eolN (src.drop i)) ln (co + eolN (src.drop i))))) → ∃ r H', T Tryz.prog 149 [.ptr id 0 0] H r H' ∧ R r H' := by
    intro R hR
    refine T.of_all mix c_lex_reader_remark rfl ?_
    generalize hK : endY _ _ _ = K
    unfold v_lex_reader_remark
    simp only [go_sem, ↓reduceIte]
    refine WP.loop' (fun m E H1 => ∃ (j : Nat) (ex : _) (d : V), H1 = H.set id (.cells 0 (rdC src j ln (co + (j - i : Nat)))) ∧ i ≤ j ∧ j ≤ src.length ∧ i + eolN (src.drop i) = j + eolN (src.drop j) ∧ m = src.length - j ∧ E = ⟨(0, .ptr id 0 0) :: ex, d⟩) (n := src.length - i)
      ⟨i, _, _, by rw [Nat.sub_self]; simp only [Int.natCast_zero, Int.add_zero]; exact (gc_self h).symm, Nat.le_refl _, hr.b, rfl, rfl, rfl⟩ ?_
    rintro m E H1 ⟨j, ex, d, rfl, hij, hjb, he, rfl, rfl⟩
    have hg : getCells (H.set id (.cells 0 (rdC src j ln (co + (j - i : Nat))))) id 0 = some (rdC src j ln (co + (j - i : Nat))) := gc_same (gc_lt h)
    simp only [rdC] at hg
    have hw := inc64' (i := j) (by omega)
    have hw2 : IntKind.i64.wrap (co + (j - i : Nat) + 1) = co + (j - i : Nat) + 1 := wrap64 (by have := hr.c1; omega) (by have := hr.c2; have := hr.b; omega)
    have hlt := gc_lt h
    have hend : ∀ {x : X} {E : En}, (match x with | .exit _ => False | _ => True) → eolN (src.drop j) = 0 → K x E (H.set id (.cells 0 (rdC src j ln (co + (j - i : Nat))))) := by
      intro x E hx h0
      rw [← hK]
      rw [h0] at he
      have e1 : j = i + eolN (src.drop i) := by omega
      have e2 : co + ((j - i : Nat) : Int) = co + (eolN (src.drop i) : Nat) := by omega
      rw [e2, e1]
      exact endY_set rfl hx hR
    simp only [rdC] at hend ⊢
    simp only [go_sem, ↓reduceIte, ↓hg, Int.toNat_natCast, ↓run_addW, hw, hw2, List.set_set, ↓gc_same hlt]
    refine ⟨fun hj => ?_, fun hj => hend trivial ?_⟩
    · obtain ⟨b, hb⟩ := get_lt (src := src) (i := j) (by omega)
      have hd := drop_get hb
      refine ⟨b, hb, fun hb10 => ?_, fun hb10 => ?_⟩
      · have hb' : b ≠ 10 := by rintro rfl; simp at hb10
        rw [hd, eolN, if_neg hb'] at he
        refine ⟨src.length - (j + 1), by omega, j + 1, _, _, ?_, by omega, by omega, by omega, rfl, rfl⟩
        rw [show j + 1 - i = (j - i) + 1 by omega]
        simp only [rdC, Int.natCast_add, Int.natCast_one, Int.add_assoc]
      · refine hend trivial ?_
        have hb' : b = 10 := (u8_eq (n := 10) (by decide)).1 (by simpa using hb10)
        rw [hd, eolN, if_pos hb']
    · rw [List.drop_of_length_le (by omega)]; rfl
  obtain ⟨r, H', hT, rfl, rfl⟩ := key (fun r H' => r = .tup [] ∧ H' = H.set id (.cells 0 (rdC src (i + eolN (src.drop i)) ln (co + eolN (src.drop i))))) ⟨rfl, rfl⟩
  exact hT
theorem lexSkip_T {H : Heap} {id : Nat} {src : List UInt8} {i : Nat} {ln co : Int} (h : getCells H id 0 = some (rdC src i ln co)) (hr : RdI src.length i ln co) (hn : src.length ≤ 8192) :
    T Tryz.prog 106 [.ptr id 0 0] H (.bool (decide (i + blankN (src.drop i) < src.length))) (H.set id (.cells 0 (rdC src (i + blankN (src.drop i)) (adv (ln, co) ((src.drop i).take (blankN (src.drop i)))).1 (adv (ln, co) ((src.drop i).take (blankN (src.drop i)))).2))) ∧
      RdI src.length (i + blankN (src.drop i)) (adv (ln, co) ((src.drop i).take (blankN (src.drop i)))).1 (adv (ln, co) ((src.drop i).take (blankN (src.drop i)))).2 := by
  generalize hp : adv (ln, co) ((src.drop i).take (blankN (src.drop i))) = p
  generalize hb : i + blankN (src.drop i) = i'
  have key : ∀ R : V → Heap → Prop, (RdI src.length i' p.1 p.2 → R (.bool (decide (i' < src.length))) (H.set id (.cells 0 (rdC src i' p.1 p.2)))) → ∃ r H', T Tryz.prog 106 [.ptr id 0 0] H r H' ∧ R r H' := by
    intro R hR
    refine T.of_all mix c_lex_reader_skip rfl ?_
    generalize hK : endY _ _ _ = K
    unfold v_lex_reader_skip
    simp only [go_sem, ↓reduceIte]
    refine WP.loop' (fun m E H1 => ∃ (j : Nat) (ln' co' : Int) (ex : _) (d : V), H1 = H.set id (.cells 0 (rdC src j ln' co')) ∧ i ≤ j ∧ RdI src.length j ln' co' ∧ j + blankN (src.drop j) = i' ∧ adv (ln', co') ((src.drop j).take (blankN (src.drop j))) = p ∧ m = src.length - j ∧ E = ⟨(0, .ptr id 0 0) :: ex, d⟩) (n := src.length - i)
      ⟨i, ln, co, _, _, (gc_self h).symm, Nat.le_refl _, hr, hb, hp, rfl, rfl⟩ ?_
    rintro m E H1 ⟨j, ln', co', ex, d, rfl, hij, hr', hbj, hpj, rfl, rfl⟩
    have hg : getCells (H.set id (.cells 0 (rdC src j ln' co'))) id 0 = some (rdC src j ln' co') := gc_same (gc_lt h)
    have hg0 := hg
    have hw := inc64' (i := j) (by have := hr'.b; omega)
    have hw2 : IntKind.i64.wrap (co' + 1) = co' + 1 := wrap64 (by have := hr'.c1; omega) (by have := hr'.c2; have := hr'.b; omega)
    have hw3 : IntKind.i64.wrap (ln' + 1) = ln' + 1 := wrap64 (by have := hr'.l1; omega) (by have := hr'.l2; have := hr'.b; omega)
    have hlt := gc_lt h
    have hend : ∀ {l : List (Nat × V)} {d : V}, blankN (src.drop j) = 0 → getE l d 2 = .bool (decide (j < src.length)) → K .ret ⟨l, d⟩ (H.set id (.cells 0 (rdC src j ln' co'))) := by
      intro l d h0 hv
      rw [← hK]
      rw [h0] at hbj hpj
      rw [List.take_zero, adv_nil] at hpj
      subst hpj
      rw [Nat.add_zero] at hbj
      subst hbj
      exact endY_setB rfl trivial hv (hR hr')
    have hlen := hr'.b
    simp only [rdC] at hg hend ⊢
    simp only [go_sem, ↓reduceIte, ↓hg, Int.toNat_natCast, ↓run_addW, hw, hw2, hw3, List.set_set, ↓gc_same hlt, lt_len]
    have hR := hr'
    obtain ⟨r0, r1, r2, r3, r4⟩ := hR
    refine ⟨fun hj => ?_, fun hj => hend (by rw [List.drop_of_length_le (by omega), blankN_nil]) (by rfl)⟩
    obtain ⟨b, hbb⟩ := get_lt (src := src) (i := j) (by omega)
    have hd := drop_get hbb
    rw [hd] at hbj hpj hend
    have hu : ∀ n : Nat, n < 256 → (((b.toNat : Int) = (n : Int)) ↔ b = UInt8.ofNat n) := fun n hn => u8_eq hn
    have h10 := hu 10 (by decide)
    have h32 := hu 32 (by decide)
    have h45 := hu 45 (by decide)
    refine ⟨b, hbb, fun e => ?_, fun e1 => ⟨fun e => ?_, fun e2 => ⟨fun e => ⟨fun hj1 => ?_, fun hj1 => ?_⟩, fun e => ?_⟩⟩⟩
    · have hb' : b = 32 := h32.1 (by simpa using e)
      subst hb'
      rw [blankN_blank (.inl rfl)] at hbj hpj
      rw [List.take_succ_cons, adv_cons] at hpj
      exact ⟨src.length - (j + 1), by omega, j + 1, ln', co' + 1, _, _, rfl, by omega, ⟨by omega, r1, by omega, by omega, by omega⟩, by omega, hpj, rfl, rfl⟩
    · have hb' : b = 10 := h10.1 (by simpa using e)
      subst hb'
      rw [blankN_blank (.inr rfl)] at hbj hpj
      rw [List.take_succ_cons, adv_cons] at hpj
      exact ⟨src.length - (j + 1), by omega, j + 1, ln' + 1, 1, _, _, rfl, by omega, ⟨by omega, by omega, by omega, by omega, by omega⟩, by omega, hpj, rfl, rfl⟩
    · have hb' : b = 45 := h45.1 (by simpa using e)
      subst hb'
      obtain ⟨b2, hb2⟩ := get_lt (src := src) (i := j + 1) (by omega)
      refine ⟨b2, hb2, fun e3 => ?_, fun e3 => ?_⟩
      · have hb2' : b2 = 45 := (u8_eq (n := 45) (by decide)).1 (by simpa using e3)
        subst hb2'
        have hd2 := drop_get hb2
        have hh : (src.drop (j + 1)).head? = some 45 := by rw [hd2]; rfl
        rw [blankN_remark hh] at hbj hpj
        have hT := lexRemark_T hg0 hr' hn
        have he : eolN (src.drop j) = eolN (src.drop (j + 1)) + 1 := by rw [hd]; rfl
        rw [he, List.set_set] at hT
        have hle := eolN_le (src.drop (j + 1))
        rw [List.length_drop] at hle
        refine ⟨_, _, hT, src.length - (j + (eolN (src.drop (j + 1)) + 1)), ?_, _, ln', _, _, _, rfl, by omega, ⟨by omega, r1, by omega, by omega, by omega⟩, ?_, ?_, rfl, rfl⟩
        · omega
        · have e5 : src.drop (j + (eolN (src.drop (j + 1)) + 1)) = (src.drop (j + 1)).drop (eolN (src.drop (j + 1))) := by
            rw [List.drop_drop]; congr 1; omega
          rw [e5]; omega
        · have e5 : src.drop (j + (eolN (src.drop (j + 1)) + 1)) = (src.drop (j + 1)).drop (eolN (src.drop (j + 1))) := by
            rw [List.drop_drop]; congr 1; omega
          rw [← hpj, e5, List.take_add, adv_append]
          have h6 := adv_eol (ln', co') (45 :: src.drop (j + 1))
          have h7 : eolN (45 :: src.drop (j + 1)) = eolN (src.drop (j + 1)) + 1 := rfl
          rw [h7] at h6
          rw [h6, List.drop_succ_cons]
      · refine hend ?_ (by rfl)
        rw [blankN_none (by rintro (h | h) <;> cases h)]
        rintro ⟨_, h⟩
        rw [drop_get hb2] at h
        cases h
        simp at e3
    · refine hend ?_ (by rfl)
      rw [blankN_none (by rintro (h | h) <;> cases h <;> simp at e1 e2)]
      rintro ⟨h, h'⟩
      rw [List.drop_of_length_le (by omega)] at h'; cases h'
    · refine hend ?_ (by rfl)
      rw [blankN_none (by rintro (h | h) <;> cases h <;> simp at e1 e2)]
      rintro ⟨h, _⟩
      subst h; simp at e
  obtain ⟨r, H', hT, hh, rfl, rfl⟩ := key (fun r H' => RdI src.length i' p.1 p.2 ∧ r = .bool (decide (i' < src.length)) ∧ H' = H.set id (.cells 0 (rdC src i' p.1 p.2))) fun h => ⟨h, rfl, rfl⟩
  exact ⟨hT, hh⟩
end Go.Proofs.YtoaohapbbnpbeaaGreat.Vm
namespace Go.Proofs.YtoaohapbbnpbeaaGreat.Vm
open Go Lx
set_option linter.unusedSimpArgs false

/-- A function at the empty heap that answers something. -/
theorem T.of0x {P : Program} (hmix : P.follows .mixedOrders = true) {f : Nat} {vf : VFunc} (hc : chkFn P f vf = true) {args : List V} {R : V → Prop} (hl : Nat.ble args.length vf.n = true)
    (h : run P vf.body [] ⟨args.zipIdx.map fun p => (p.2, p.1), .tup []⟩ [] (end0 vf.results R)) : ∃ r, T P f args [] r [] ∧ R r := by
  obtain ⟨x, E1, H1, h1, h2, r0, h6, r, h7, h8⟩ := wp_sound h
  rw [env0_eq] at h1
  have := T_of (m := 0) hmix hc (Nat.le_of_ble_eq_true hl) h1 (by intro id e; subst e; exact h2) (Nat.le_refl _) (Nat.zero_le _) h6 h7 (fun i ob hi => absurd hi (Nat.not_lt_zero i))
  rw [List.take_zero] at this
  exact ⟨r, this, h8⟩
def okClass (c : Nat) : Bool := match callN tab 1000 150 [.int .u8 c] [] with
  | some (.int .i64 k, []) => k == cls c
  | _ => false
theorem class_all : (List.range 256).all okClass = true := by kernel_rfl
theorem lexClass_T (c : UInt8) (H : Heap) : T Tryz.prog 150 [.int .u8 c.toNat] H (.int .i64 (cls c.toNat)) H := by
  have h := List.all_eq_true.1 class_all c.toNat (List.mem_range.2 c.toNat_lt)
  unfold okClass at h
  split at h
  · rename_i k hk
    rw [← eq_of_beq h]
    exact (callN_sound mix tab_ok _ hk).frame rfl H
  · cases h
end Go.Proofs.YtoaohapbbnpbeaaGreat.Vm
namespace Go.Proofs.YtoaohapbbnpbeaaGreat.Vm
open Go Lx
set_option linter.unusedSimpArgs false

theorem goesOn_T (k : Int) (c : UInt8) (H : Heap) : T Tryz.prog 151 [.int .i64 k, .int .u8 c.toNat] H (.bool (Lx.goes k c.toNat)) H := by
  refine T.frame ?_ rfl H
  refine T.of0 mix c_lex_goesOn rfl ?_
  unfold v_lex_goesOn
  simp only [go_sem, ↓reduceIte]
  refine ⟨_, _, lexClass_T c [], ?_⟩
  simp only [go_sem, ↓reduceIte]
  unfold Lx.goes
  have h39 : (((c.toNat : Nat) : Int) == 39) = (c.toNat == 39) := by rw [Bool.eq_iff_iff]; simp; omega
  generalize cls c.toNat = q
  simp only [h39]
  generalize (c.toNat == 39) = z
  repeat' first | apply And.intro | intro _
  all_goals simp_all
theorem lexWord_T (x : List UInt8) (H : Heap) : T Tryz.prog 202 [.str x] H (.bool (isWord x)) H := by
  refine T.frame ?_ rfl H
  refine T.of0 mix c_lex_Word rfl ?_
  unfold v_lex_Word
  simp only [go_sem, ↓reduceIte]
  unfold isWord words
  simp only [List.contains_cons, List.contains_nil]
  repeat' first | apply And.intro | intro _
  all_goals simp_all
theorem lexKind_T (k : Int) (x : List UInt8) (H : Heap) : T Tryz.prog 152 [.int .i64 k, .str x] H (.int .i64 (kindS k x)) H := by
  refine T.frame ?_ rfl H
  refine T.of0 mix c_lex_kind rfl ?_
  have hW := lexWord_T x []
  unfold v_lex_kind
  simp only [go_sem, ↓reduceIte]
  unfold kindS
  repeat' first | apply And.intro | intro _
  all_goals first
    | (refine ⟨_, _, hW, ?_⟩
       simp only [go_sem, ↓reduceIte]
       repeat' first | apply And.intro | intro _
       all_goals simp_all)
    | simp_all
section
variable {P : Program} {K : KK} {s : List Fr} {E : En} {H : Heap} {tk : List Nat} {dst : Option Nat} {os : List VOp} {keep : List Nat}
theorem run_mulX {k : IntKind} {a b : Int} : runInt P .mul k a b tk dst os keep s E H K = runOps P os keep s ((stripEn tk E).setO dst (.int k (k.wrap (a * b)))) H K := by
  unfold runInt intW
  apply propext
  constructor
  · rintro ⟨z, rfl, h⟩; exact h
  · intro h; exact ⟨_, rfl, h⟩
theorem run_convW {j k : IntKind} {a : Int} : runAct P (.conv k) [.int j a] tk dst os keep s E H K = nextV P (.int k (k.wrap a)) tk dst os keep s E H K := by
  apply propext
  constructor
  · rintro ⟨z, rfl, h⟩; exact h
  · intro h; exact ⟨_, rfl, h⟩
theorem run_negW {k : IntKind} {a : Int} : runAct P .neg [.int k a] tk dst os keep s E H K = nextV P (.int k (k.wrap (0 - a))) tk dst os keep s E H K := by
  apply propext
  constructor
  · rintro ⟨z, rfl, h⟩; exact h
  · intro h; exact ⟨_, rfl, h⟩
end
theorem fin0_ii {H : Heap} {R : V → Prop} {j k : IntKind} {a b : Int} : fin0 H (.tup [.int j a, .int k b]) R = R (.tup [.int j a, .int k b]) := by
  simp [fin0, fixd_tup2, fixd_int]
/-- Digits alone. -/
def digs (x : L) : Prop := ∀ c ∈ x, 48 ≤ c.toNat ∧ c.toNat ≤ 57
/-- What a text of digits alone comes to. -/
def parS (x : L) : Int × Int := if x = [] ∨ x.length > 19 ∨ (x.head? = some 48 ∧ x.length > 1) ∨ numv x > 9223372036854775807 then (0, 11) else ((numv x : Int), 0)
theorem numv_app (a : L) (c : UInt8) : numv (a ++ [c]) = numv a * 10 + (c.toNat - 48) := by unfold numv; rw [List.foldl_append]; rfl
theorem numv_lt : ∀ (n : Nat) (a : L), a.length = n → digs a → numv a < 10 ^ n := by
  intro n
  induction n with
  | zero => intro a h _; obtain rfl := List.length_eq_zero_iff.1 h; decide
  | succ n ih =>
    intro a h hd
    obtain ⟨b, c, rfl⟩ : ∃ b c, a = b ++ [c] := by
      rcases List.eq_nil_or_concat a with rfl | ⟨b, c, rfl⟩
      · simp at h
      · exact ⟨b, c, by simp⟩
    rw [numv_app, Nat.pow_succ]
    have h1 := ih b (by simpa using h) fun x hx => hd x (by simp [hx])
    have h2 := hd c (by simp)
    omega
end Go.Proofs.YtoaohapbbnpbeaaGreat.Vm
namespace Go.Proofs.YtoaohapbbnpbeaaGreat.Vm
open Go Lx
set_option linter.unusedSimpArgs false

theorem wrapU8 {n : Int} (h1 : 0 ≤ n) (h2 : n < 256) : IntKind.u8.wrap n = n := by
  simp [IntKind.wrap, IntKind.bits, IntKind.signed]
  omega
theorem wrapU64 {n : Int} (h1 : 0 ≤ n) (h2 : n < 18446744073709551616) : IntKind.u64.wrap n = n := by
  simp [IntKind.wrap, IntKind.bits, IntKind.signed]
  omega
theorem parse_T (x : L) (hd : digs x) : T Tryz.prog 203 [.str x] [] (.tup [.int .i64 (parS x).1, .int .i64 (parS x).2]) [] := by
  refine T.of0 mix c_num_Parse rfl ?_
  generalize hK : end0 _ _ = K
  unfold v_num_Parse
  have hend : ∀ {l : List (Nat × V)} {d : V} {n e : Int}, (n, e) = parS x → getE l d 2 = .int .i64 n → getE l d 3 = .int .i64 e → K .ret ⟨l, d⟩ [] := by
    intro l d n e h0 h1 h2
    rw [← hK]
    show end0 [.tmp 2, .tmp 3] _ .ret ⟨l, d⟩ []
    rw [end0_two, h1, h2, fin0_ii, ← h0]
  cases x with
  | nil =>
    simp only [go_sem, ↓reduceIte, ↓run_mulX, ↓run_convW, ↓run_negW, ↓run_addW, ↓run_subW, List.length_nil]
    simp only [Int.natCast_zero, gt_iff_lt, Int.lt_irrefl, false_implies, true_and, not_false_eq_true, forall_const, and_true, beq_self_eq_true, ↓reduceIte]
    have := @hend [(2, V.int IntKind.i64 0), (3, V.int IntKind.i64 11)] V.u 0 11 (by rfl) rfl rfl
    simp [this]
  | cons c r =>
    have hc45 : ((c.toNat : Int) == 45) = false := by
      have := hd c (List.mem_cons_self ..)
      simp; omega
    generalize hx : c :: r = x at *
    have h0 : x[0]? = some c := by rw [← hx]; rfl
    have hpos : 0 < x.length := by rw [← hx]; simp
    have hne : (x == []) = false := by rw [← hx]; rfl
    have hgt : ((x.length : Int) > 0) = True := by simp; omega
    simp only [go_sem, ↓reduceIte, ↓run_mulX, ↓run_convW, ↓run_negW, ↓run_addW, ↓run_subW, hgt, h0, hc45, hne, Int.toNat_zero, Option.some.injEq, exists_eq_left', Int.le_refl, true_and, Bool.false_eq_true, false_implies, forall_const, not_true_eq_false, and_true]
    generalize hL : WP Tryz.prog (VCode.loop _) _ _ _ = L
    have hh : x.head? = some c := by rw [← hx]; rfl
    have hl : x.length ≤ 19 → ¬ (c = 48 ∧ 1 < x.length) → L := by
      intro h19 hz0
      rw [← hL]
      refine WP.range (n := x.length) (fun j E G => G = [] ∧ ∃ ex, E = ⟨(4, .str x) :: (5, .bool false) :: (6, .int .u64 (numv (x.take j))) :: (7, .bool true) :: (8, .int .i64 j) :: ex, .u⟩) ⟨rfl, _, rfl⟩ ?_
      rintro j E G hj ⟨rfl, ex, rfl⟩
      have hw := inc64 (i := j) (by omega)
      simp only [go_sem, ↓reduceIte, ↓ex_map, ↓run_mulX, ↓run_convW, ↓run_negW, ↓run_addW, ↓run_subW, hw, lt_len, Int.toNat_natCast]
      have hK0 : ∀ (l : List (Nat × V)) (d : V), parS x = (0, 11) → getE l d 2 = .int .i64 0 → getE l d 3 = .int .i64 11 → K .ret ⟨l, d⟩ [] := fun l d h => hend h.symm
      refine ⟨fun hlt => ?_, fun hge => ?_⟩
      · obtain ⟨b, hb⟩ := get_lt (src := x) (i := j) hlt
        have hdb := hd b (List.mem_of_getElem? hb)
        have ht : x.take (j + 1) = x.take j ++ [b] := by rw [List.take_add_one, hb]; rfl
        have hz := numv_lt j (x.take j) (by simp; omega) fun c hc => hd c (List.mem_of_mem_take hc)
        have hz2 : (10 : Nat) ^ j ≤ 10 ^ 18 := Nat.pow_le_pow_right (by decide) (by omega)
        have e1 : IntKind.u8.wrap ((b.toNat : Int) - 48) = ((b.toNat - 48 : Nat) : Int) := by
          rw [wrapU8 (by omega) (by omega)]; omega
        have e2 : (10 : Nat) ^ 18 = 1000000000000000000 := by decide
        have e3 : IntKind.u64.wrap (((numv (x.take j) : Nat) : Int) * 10) = ((numv (x.take j) : Nat) : Int) * 10 := wrapU64 (by omega) (by omega)
        have e4 : IntKind.u64.wrap ((b.toNat - 48 : Nat) : Int) = ((b.toNat - 48 : Nat) : Int) := wrapU64 (by omega) (by omega)
        have e5 : IntKind.u64.wrap (((numv (x.take j) : Nat) : Int) * 10 + ((b.toNat - 48 : Nat) : Int)) = ((numv (x.take j) * 10 + (b.toNat - 48) : Nat) : Int) := by
          rw [wrapU64 (by omega) (by omega)]; omega
        refine ⟨b, hb, fun _ => ⟨fun h => by omega, fun _ => ⟨hlt, [], ?_⟩⟩, fun h => by omega⟩
        rw [ht, numv_app, e1, e3, e4, e5]
      · have ht : x.take j = x := List.take_of_length_le (by omega)
        rw [ht]
        have hz := numv_lt x.length x rfl hd
        have hnn : ¬ (x = [] ∨ x.length > 19 ∨ (x.head? = some 48 ∧ x.length > 1)) := by
          rintro (h | h | h)
          · rw [h] at hpos; simp at hpos
          · omega
          · exact hz0 ⟨by rw [hh] at h; exact Option.some.inj h.1, h.2⟩
        refine ⟨fun h1 => ⟨fun h2 => hK0 _ _ ?_ rfl rfl, fun h2 => hend ?_ rfl rfl⟩, fun h1 => hK0 _ _ ?_ rfl rfl⟩
        · unfold parS; rw [if_pos (.inr (.inr (.inr (by have := eq_of_beq h2; omega))))]
        · unfold parS; rw [if_neg ?_]
          · have : ((numv x : Nat) : Int) ≠ 9223372036854775808 := by simpa using h2
            rw [wrap64 (by omega) (by omega)]
          · rintro (h | h | h | h)
            · exact hnn (.inl h)
            · exact hnn (.inr (.inl h))
            · exact hnn (.inr (.inr h))
            · have : ((numv x : Nat) : Int) ≠ 9223372036854775808 := by simpa using h2
              omega
        · unfold parS; rw [if_pos (.inr (.inr (.inr (by omega))))]
    have e48 : ((c.toNat : Int) == 48) = (decide (c = 48)) := by
      rw [Bool.eq_iff_iff, beq_iff_eq, decide_eq_true_eq]
      exact u8_eq (n := 48) (by decide)
    rw [e48]
    refine ⟨fun h19 => ⟨fun h48 => ⟨fun h1 => ?_, fun h1 => hl (by omega) fun h => ?_⟩, fun h48 => hl (by omega) fun h => ?_⟩, fun h19 => ?_⟩
    · refine hend ?_ rfl rfl
      unfold parS
      rw [if_pos (.inr (.inr (.inl ⟨by rw [hh]; exact congrArg some (of_decide_eq_true h48), by omega⟩)))]
    · omega
    · exact absurd h.1 (of_decide_eq_false h48)
    · refine hend ?_ rfl rfl
      unfold parS
      rw [if_pos (.inr (.inl (by omega)))]
theorem parse_least : T Tryz.prog 203 [.str (45 :: leastL)] [] (.tup [.int .i64 (-9223372036854775808), .int .i64 0]) [] :=
  callN_sound mix tab_ok 2000 (by kernel_rfl)
theorem lexValue_T (x : L) (hd : digs x) (hx : x ≠ []) (H : Heap) : T Tryz.prog 153 [.str x] H (.tup [.int .i64 (valS x).1, .int .i64 (valS x).2]) H := by
  refine T.frame ?_ rfl H
  refine T.of0 mix c_lex_value rfl ?_
  generalize hK : end0 _ _ = K
  have hend : ∀ {l : List (Nat × V)} {d : V} {n e : Int}, (n, e) = valS x → getE l d 2 = .int .i64 n → getE l d 3 = .int .i64 e → K .ret ⟨l, d⟩ [] := by
    intro l d n e h0 h1 h2
    rw [← hK]
    show end0 [.tmp 2, .tmp 3] _ .ret ⟨l, d⟩ []
    rw [end0_two, h1, h2, fin0_ii, ← h0]
  unfold v_lex_value
  have hP := parse_T x hd
  have hQ := parse_least
  simp only [go_sem, ↓reduceIte]
  refine ⟨fun he => ?_, fun he => ⟨_, _, hP, ?_⟩⟩
  · have : x = leastL := eq_of_beq he
    subst this
    refine ⟨by decide, _, _, hQ, ?_⟩
    simp only [go_sem, ↓reduceIte]
    exact hend (by rfl) rfl rfl
  · simp only [go_sem, ↓reduceIte]
    refine hend ?_ rfl rfl
    have hne : x ≠ leastL := by rintro rfl; simp [leastL] at he
    unfold parS valS
    rw [if_neg hne]
    simp only [hx, false_or]
end Go.Proofs.YtoaohapbbnpbeaaGreat.Vm
namespace Go.Proofs.YtoaohapbbnpbeaaGreat.Vm
open Go Lx
set_option linter.unusedSimpArgs false

def tokC (t : Tok) : List V := [.int .i64 t.k, .str t.s, .int .i64 t.n, .int .i64 t.ln, .int .i64 t.co, .bool t.md]
def toksV (o : Bool) (l : List Tok) : V := .sl o 6 (l.map tokC)
section
variable {A : Heap} {id : Nat} {o o1 x : Obj} {L : Heap} {cs : List V}
theorem gcA (h : id < A.length) : getCells (A.set id (.cells 0 cs) ++ L) id 0 = some cs := by rw [gc_app (by simp; exact h), gc_same h]
theorem gcA0 : getCells (A.set id o ++ .cells 0 cs :: L) A.length 0 = some cs := by
  rw [gc_some, List.getElem?_append_right (by simp), List.length_set, Nat.sub_self]; rfl
theorem gcA1 : getCells (A.set id o ++ o1 :: .cells 0 cs :: L) (A.length + 1) 0 = some cs := by
  rw [gc_some, List.getElem?_append_right (by simp), List.length_set, Nat.add_sub_cancel_left]; rfl
theorem stA (h : id < A.length) : (A.set id o ++ L).set id x = A.set id x ++ L := by
  rw [List.set_append_left _ _ (by simp; exact h), List.set_set]
theorem stA0 : (A.set id o ++ o1 :: L).set A.length x = A.set id o ++ x :: L := by
  rw [List.set_append_right _ _ (by simp), List.length_set, Nat.sub_self]; rfl
theorem stA1 {o2 : Obj} : (A.set id o ++ o1 :: o2 :: L).set (A.length + 1) x = A.set id o ++ o1 :: x :: L := by
  rw [List.set_append_right _ _ (by simp), List.length_set, Nat.add_sub_cancel_left]; rfl
end

def tok0 : Tok := ⟨0, [], 0, 0, 0, false⟩
/-- The token that some bytes begin with, and what is wrong with it. -/
def nextT (l : L) (p : Int × Int) : Tok × Int := match l with
  | [] => (tok0, 20)
  | c :: r => if cls c.toNat = 0 then (tok0, 20) else
    let t := (c :: r).take (tokLen (c :: r))
    let k := kindS (cls c.toNat) t
    if k = 4 then (if (valS t).2 = 0 then (tok k t (valS t).1 p, 0) else (tok0, (valS t).2)) else if t.length > 32 then (tok0, 2) else (tok k t 0 p, 0)
theorem cls3 : ∀ n : Nat, n < 256 → cls n = 3 → 48 ≤ n ∧ n ≤ 57 := by decide +kernel
theorem kind4 {k : Int} {y : L} (h : kindS k y = 4) : k = 3 := by
  unfold kindS at h
  split at h
  · cases h
  · split at h
    · assumption
    · split at h
      · split at h <;> cases h
      · split at h
        · split at h
          · cases h
          · split at h <;> cases h
        · cases h
theorem digs_run {c : UInt8} {r : L} (hc : cls c.toNat = 3) : digs ((c :: r).take (tokLen (c :: r))) := by
  intro b hb
  have h1 : tokLen (c :: r) = (runL 3 r).length + 1 := by
    simp only [tokLen]
    rw [hc]; rfl
  rw [h1, List.take_succ_cons, runL_take] at hb
  rcases List.mem_cons.1 hb with rfl | hb
  · exact cls3 _ b.toNat_lt hc
  · have : Lx.goes 3 b.toNat = true := by
      have key : ∀ l : L, ∀ b ∈ runL 3 l, Lx.goes 3 b.toNat = true := by
        intro l
        induction l with
        | nil => intro b h; cases h
        | cons a l ih =>
          intro b h
          unfold runL at h ih
          rw [List.takeWhile_cons] at h
          split at h
          · rename_i ha
            rcases List.mem_cons.1 h with rfl | h
            · exact ha
            · exact ih b h
          · cases h
      exact key _ _ hb
    unfold Lx.goes at this
    simp at this
    exact cls3 _ b.toNat_lt this
theorem endX_next {A : Heap} {id : Nat} {src : List UInt8} {o : List V} {t : Tok} {e : Int} {l : List (Nat × V)} {d : V} {L : Heap} {i' : Nat} {co' ln' : Int} {R : V → Heap → Prop} (ho : o = rdC src i' ln' co') (hid : id < A.length) (h2 : getE l d 2 = .ptr A.length 0 0) (h3 : getE l d 3 = .int .i64 e)
    (hR : R (.tup [.agg (tokC t), .int .i64 e]) (A.set id (.cells 0 (rdC src i' ln' co')))) {o0 : Obj} :
    endX A.length (A.set id o0) [.cell 2 6 true, .tmp 3] R .ret ⟨l, d⟩ (A.set id (.cells 0 o) ++ .cells 0 (tokC t) :: L) := by
  subst ho
  refine ⟨trivial, by simp, by simp, fun k ob hk hob => ?_, .tup [.agg (tokC t), .int .i64 e], ?_, .tup [.agg (tokC t), .int .i64 e], ?_, ?_⟩
  · rw [List.getElem?_append_left (by simp; exact hk), List.getElem?_set] at hob
    rw [List.getElem?_set]
    by_cases hkk : id = k
    · subst hkk
      rw [if_pos rfl, if_pos hid] at hob
      cases hob; exact .inr rfl
    · rw [if_neg hkk] at hob ⊢
      exact .inl hob
  · simp only [resV, resL, res1, En.f, h2, h3, gcA0, Option.bind_some, pack, Option.map_some]
    rfl
  · rfl
  · rw [List.take_append_of_le_length (by simp), List.take_of_length_le (by simp)]
    exact hR
theorem lexNext_T (A : Heap) (id : Nat) (hid : id < A.length) {src : List UInt8} {i : Nat} {ln co : Int} (hi : i < src.length) (hr : RdI src.length i ln co) (hn : src.length ≤ 8192) :
    T Tryz.prog 107 [.ptr id 0 0] (A.set id (.cells 0 (rdC src i ln co))) (.tup [.agg (tokC (nextT (src.drop i) (ln, co)).1), .int .i64 (nextT (src.drop i) (ln, co)).2]) (A.set id (.cells 0 (rdC src (i + tokLen (src.drop i)) ln (co + tokLen (src.drop i))))) := by
  have key : ∀ R : V → Heap → Prop, R (.tup [.agg (tokC (nextT (src.drop i) (ln, co)).1), .int .i64 (nextT (src.drop i) (ln, co)).2]) (A.set id (.cells 0 (rdC src (i + tokLen (src.drop i)) ln (co + tokLen (src.drop i))))) →
      ∃ r H', T Tryz.prog 107 [.ptr id 0 0] (A.set id (.cells 0 (rdC src i ln co))) r H' ∧ R r H' := by
    intro R hR
    refine T.of_ex mix c_lex_reader_next A.length rfl ?_
    generalize hK : endX _ _ _ _ = K
    obtain ⟨r0, r1, r2, r3, r4⟩ := hr
    have hw := inc64' (i := i) (by omega)
    obtain ⟨c, hc⟩ := get_lt (src := src) (i := i) hi
    have hd := drop_get hc
    unfold v_lex_reader_next
    simp only [go_sem, ↓reduceIte, ↓gcA hid, ↓gcA0, ↓gcA1, stA hid, stA0, stA1, rdC, Int.toNat_natCast, List.length_set, ↓run_addW, ↓run_subW, ↓run_sliceStr, hw, List.append_assoc, hc]
    have hT := lexClass_T c (A.set id (.cells 0 (rdC src i ln co)) ++ [.cells 0 (tokC tok0)])
    refine ⟨_, _, hT, ?_⟩
    simp only [go_sem, ↓reduceIte, ↓gcA hid, ↓gcA0, ↓gcA1, stA hid, stA0, stA1, rdC, tokC, tok0, Int.toNat_natCast, List.length_set, ↓run_addW, ↓run_subW, ↓run_sliceStr, hw, List.append_assoc, hc]
    rw [hd] at hR
    refine ⟨fun hk => ?_, fun hk => ?_⟩
    · have hc0 : cls c.toNat = 0 := by simpa using hk
      simp only [nextT, tokLen, if_pos hc0, Nat.add_zero, Int.natCast_zero, Int.add_zero] at hR
      rw [← hK]
      exact endX_next (t := tok0) (i' := i) rfl hid rfl rfl hR
    have hc0 : cls c.toNat ≠ 0 := by simpa using hk
    have htl : tokLen (c :: src.drop (i + 1)) = (runL (cls c.toNat) (src.drop (i + 1))).length + 1 := by simp only [tokLen, if_neg hc0]
    generalize hC : [Fr.blk 0, Fr.code _] = fs
    have hgo : ∀ (j : Nat) (ex : List (Nat × V)) (d : V), i < j → j ≤ src.length → j = i + tokLen (c :: src.drop (i + 1)) → goes Tryz.prog K fs (.exit 0) ⟨(0, .ptr id 0 0) :: (2, .ptr A.length 0 0) :: (4, .int .i64 (cls c.toNat)) :: (5, .int .i64 i) :: (6, .ptr (A.length + 1) 0 0) :: ex, d⟩
        (A.set id (.cells 0 (rdC src j ln co)) ++ [.cells 0 (tokC tok0), .cells 0 [.int .i64 0, .str [], .int .i64 0, .int .i64 ln, .int .i64 co, .bool false]]) := by
      intro j ex d hj1 hj2 hjt
      have e1 : IntKind.i64.wrap ((j : Int) - i) = (j : Int) - i := wrap64 (by omega) (by omega)
      have e2 : IntKind.i64.wrap (co + ((j : Int) - i)) = co + ((j : Int) - i) := wrap64 (by omega) (by omega)
      have e3 : co + ((j : Int) - i) = co + (tokLen (c :: src.drop (i + 1)) : Nat) := by omega
      have hy : (src.take j).drop i = (c :: src.drop (i + 1)).take (tokLen (c :: src.drop (i + 1))) := by
        have hjt' := hjt
        rw [← hd] at hjt' ⊢
        rw [List.drop_take]; congr 1; omega
      rw [← hC]
      simp only [go_sem, ↓reduceIte, ↓gcA hid, ↓gcA0, ↓gcA1, stA hid, stA0, stA1, Int.toNat_natCast, List.length_set, ↓run_addW, ↓run_subW, ↓run_sliceStr, List.append_assoc, rdC, tokC, tok0, e1, e2]
      refine ⟨⟨by omega, by omega⟩, ?_⟩
      rw [e3, hy]
      have hyl : ((c :: src.drop (i + 1)).take (tokLen (c :: src.drop (i + 1)))).length ≤ 8192 := by
        have := tokLen_le (c :: src.drop (i + 1))
        rw [List.length_take]
        simp at this ⊢
        omega
      have hdig := fun h3 => digs_run (c := c) (r := src.drop (i + 1)) h3
      have hne : (c :: src.drop (i + 1)).take (tokLen (c :: src.drop (i + 1))) ≠ [] := by rw [htl, List.take_succ_cons]; simp
      simp only [nextT, if_neg hc0] at hR
      rw [← hjt] at hR
      generalize (c :: src.drop (i + 1)).take (tokLen (c :: src.drop (i + 1))) = y at hyl hdig hne hR
      generalize hcc : co + (tokLen (c :: src.drop (i + 1)) : Int) = co' at hR
      refine ⟨_, _, lexKind_T _ y _, ?_⟩
      have hzero : ∀ {e : Int} {L : Heap} {d : V}, ((if kindS (cls c.toNat) y = 4 then (if (valS y).2 = 0 then (tok (kindS (cls c.toNat) y) y (valS y).1 (ln, co), (0 : Int)) else (tok0, (valS y).2)) else if y.length > 32 then (tok0, 2) else (tok (kindS (cls c.toNat) y) y 0 (ln, co), 0)) = (tok0, e)) →
          K .ret ⟨[(2, .ptr A.length 0 0), (3, .int .i64 e)], d⟩ (A.set id (.cells 0 (rdC src j ln co')) ++ .cells 0 (tokC tok0) :: L) := by
        intro e L d he
        rw [he] at hR
        rw [← hK]
        exact endX_next (t := tok0) (i' := j) rfl hid rfl rfl hR
      have hfull : ∀ {L : Heap} {d : V} (vn : Int), ((if kindS (cls c.toNat) y = 4 then (if (valS y).2 = 0 then (tok (kindS (cls c.toNat) y) y (valS y).1 (ln, co), (0 : Int)) else (tok0, (valS y).2)) else if y.length > 32 then (tok0, 2) else (tok (kindS (cls c.toNat) y) y 0 (ln, co), 0)) = (tok (kindS (cls c.toNat) y) y vn (ln, co), 0)) →
          K .ret ⟨[(2, .ptr A.length 0 0), (3, .int .i64 0)], d⟩ (A.set id (.cells 0 (rdC src j ln co')) ++ .cells 0 (tokC ⟨kindS (cls c.toNat) y, y, vn, ln, co, false⟩) :: L) := by
        intro L d vn he
        rw [he] at hR
        rw [← hK]
        exact endX_next (t := ⟨kindS (cls c.toNat) y, y, vn, ln, co, false⟩) (i' := j) rfl hid rfl rfl hR
      have hk4 : kindS (cls c.toNat) y = 4 → cls c.toNat = 3 := kind4
      simp only [tokC, tok0, rdC] at hzero hfull
      generalize kindS (cls c.toNat) y = n at hzero hfull hk4
      simp only [go_sem, ↓reduceIte, ↓gcA hid, ↓gcA0, ↓gcA1, stA hid, stA0, stA1, Int.toNat_natCast, List.length_set, ↓run_addW, ↓run_subW, ↓run_sliceStr, List.append_assoc, rdC, tokC, tok0]
      by_cases hn4 : n = 4
      · have b1 : (n != 4) = false := by simp [hn4]
        have b2 : (n == 4) = true := by simp [hn4]
        simp only [go_sem, ↓reduceIte, ↓gcA hid, ↓gcA0, ↓gcA1, stA hid, stA0, stA1, Int.toNat_natCast, List.length_set, ↓run_addW, ↓run_subW, ↓run_sliceStr, List.append_assoc, rdC, tokC, tok0, b1, b2]
        refine ⟨_, _, lexValue_T y (hdig (hk4 hn4)) hne _, ?_⟩
        simp only [go_sem, ↓reduceIte, ↓gcA hid, ↓gcA0, ↓gcA1, stA hid, stA0, stA1, Int.toNat_natCast, List.length_set, ↓run_addW, ↓run_subW, ↓run_sliceStr, List.append_assoc, rdC, tokC, tok0]
        refine ⟨fun hne => ?_, fun he0 => ?_⟩
        · exact hzero (by rw [if_pos hn4, if_neg (by simpa using hne)])
        · exact hfull _ (by rw [if_pos hn4, if_pos (by simpa using he0)])
      · have b1 : (n != 4) = true := by simpa using hn4
        have b2 : (n == 4) = false := by simpa using hn4
        simp only [go_sem, ↓reduceIte, ↓gcA hid, ↓gcA0, ↓gcA1, stA hid, stA0, stA1, Int.toNat_natCast, List.length_set, ↓run_addW, ↓run_subW, ↓run_sliceStr, List.append_assoc, rdC, tokC, tok0, b1, b2]
        exact ⟨fun h => hzero (by rw [if_neg hn4, if_pos (by omega)]), fun h => ⟨fun h => absurd h (by decide), fun _ => hfull 0 (by rw [if_neg hn4, if_neg (by omega)])⟩⟩
    refine WP.loop' (fun m E H1 => ∃ (j : Nat) (ex : List (Nat × V)) (d : V), i < j ∧ j ≤ src.length ∧ m = src.length - j ∧ i + tokLen (c :: src.drop (i + 1)) = j + (runL (cls c.toNat) (src.drop j)).length ∧ E = ⟨(0, .ptr id 0 0) :: (2, .ptr A.length 0 0) :: (4, .int .i64 (cls c.toNat)) :: (5, .int .i64 i) :: (6, .ptr (A.length + 1) 0 0) :: ex, d⟩ ∧
        H1 = A.set id (.cells 0 (rdC src j ln co)) ++ [.cells 0 (tokC tok0), .cells 0 [.int .i64 0, .str [], .int .i64 0, .int .i64 ln, .int .i64 co, .bool false]]) (n := src.length - (i + 1))
      ⟨i + 1, _, _, by omega, by omega, rfl, by omega, rfl, rfl⟩ ?_
    rintro m E H1 ⟨j, ex, d, hj1, hj2, rfl, hjt, rfl, rfl⟩
    have hwj := inc64' (i := j) (by omega)
    have hgo' := fun ex d h => hgo j ex d hj1 hj2 h
    simp only [rdC, tokC, tok0] at hgo'
    simp only [go_sem, ↓reduceIte, ↓gcA hid, ↓gcA0, ↓gcA1, stA hid, stA0, stA1, Int.toNat_natCast, List.length_set, ↓run_addW, ↓run_subW, ↓run_sliceStr, List.append_assoc, rdC, tokC, tok0, hwj, lt_len]
    refine ⟨fun hl => ?_, fun hge => hgo' _ _ (by have hz : src.drop j = [] := List.drop_of_length_le (by omega); rw [hz] at hjt; exact hjt.symm)⟩
    obtain ⟨c2, hc2⟩ := get_lt (src := src) (i := j) (by omega)
    have hb := goesOn_T (cls c.toNat) c2 (A.set id (.cells 0 (rdC src j ln co)) ++ [.cells 0 (tokC tok0), .cells 0 [.int .i64 0, .str [], .int .i64 0, .int .i64 ln, .int .i64 co, .bool false]])
    have hd2 := drop_get hc2
    rw [hd2] at hjt
    unfold runL at hjt
    rw [List.takeWhile_cons] at hjt
    refine ⟨c2, hc2, _, _, hb, ?_⟩
    generalize Lx.goes (cls c.toNat) c2.toNat = g at hjt
    simp only [go_sem, ↓reduceIte, ↓gcA hid, ↓gcA0, ↓gcA1, stA hid, stA0, stA1, Int.toNat_natCast, List.length_set, ↓run_addW, ↓run_subW, ↓run_sliceStr, List.append_assoc, rdC, tokC, tok0, hwj]
    refine ⟨fun hg => ?_, fun hg => hgo' _ _ ?_⟩
    · rw [if_pos (by simpa using hg), List.length_cons] at hjt
      exact ⟨src.length - (j + 1), by omega, j + 1, [], .u, by omega, by omega, rfl, by unfold runL; omega, rfl, rfl⟩
    · rw [if_neg (by simpa using hg)] at hjt
      exact hjt.symm
  obtain ⟨r, H', hT, rfl, rfl⟩ := key (fun r H' => r = _ ∧ H' = _) ⟨rfl, rfl⟩
  exact hT
end Go.Proofs.YtoaohapbbnpbeaaGreat.Vm
namespace Go.Proofs.YtoaohapbbnpbeaaGreat.Vm
open Go Lx
set_option linter.unusedSimpArgs false

theorem gcL {H : Heap} {i : Nat} {cs : List V} (h : getCells H i 0 = some cs) (L : Heap) : getCells (H ++ L) i 0 = some cs := by rw [gc_app (gc_lt h)]; exact h
theorem gcS {H : Heap} {i j : Nat} {cs : List V} (h : getCells H i 0 = some cs) (hn : j ≠ i) (o : Obj) : getCells (H.set j o) i 0 = some cs := by rw [gc_ne hn]; exact h
theorem stX {H : Heap} {a b : Obj} : (H ++ [a]).set H.length b = H ++ [b] := by
  rw [List.set_append_right _ _ (Nat.le_refl _), Nat.sub_self]; rfl
/-- What is wrong with a token, how many being ahead of it. -/
def errT (l : L) (p : Int × Int) (n : Nat) : Int := if (nextT l p).2 = 0 ∧ n ≥ 2048 then 2 else (nextT l p).2
theorem valS_err (t : L) : (valS t).2 = 0 ∨ (valS t).2 = 11 := by
  unfold valS
  split
  · exact .inl rfl
  · split
    · exact .inr rfl
    · exact .inl rfl
theorem goes_nl (k : Int) : Lx.goes k 10 = false := by
  unfold Lx.goes
  split
  · rfl
  · split
    · rename_i h; rcases h with rfl | rfl <;> rfl
    · rfl
theorem tok_plain {c : UInt8} {r : L} (hc : cls c.toNat ≠ 0) : ∀ b ∈ (c :: r).take (tokLen (c :: r)), b ≠ 10 := by
  intro b hb
  have h1 : tokLen (c :: r) = (runL (cls c.toNat) r).length + 1 := by simp only [tokLen, if_neg hc]
  rw [h1, List.take_succ_cons, runL_take] at hb
  rcases List.mem_cons.1 hb with rfl | hb
  · rintro rfl; exact hc rfl
  · have key : ∀ l : L, ∀ b ∈ runL (cls c.toNat) l, Lx.goes (cls c.toNat) b.toNat = true := by
      intro l
      induction l with
      | nil => intro b h; cases h
      | cons a l ih =>
        intro b h
        unfold runL at h ih
        rw [List.takeWhile_cons] at h
        split at h
        · rename_i ha
          rcases List.mem_cons.1 h with rfl | h
          · exact ha
          · exact ih b h
        · cases h
    rintro rfl
    have := key _ _ hb
    exact absurd this (by rw [show (UInt8.toNat 10) = 10 from rfl, goes_nl]; decide)
/-- One token off. -/
theorem toks_nil {p : Int × Int} {n : Nat} {l : L} (h : l.drop (blankN l) = []) : toks p n l = ([], 0, 0, 0) := by
  rw [toks]; split
  · rfl
  · rename_i h'; rw [h] at h'; cases h'
theorem toks_next {p : Int × Int} {n : Nat} {l : L} {c : UInt8} {r : L} (h : l.drop (blankN l) = c :: r) :
    toks p n l = if errT (c :: r) (adv p (l.take (blankN l))) n = 0 then
        (if (toks ((adv p (l.take (blankN l))).1, (adv p (l.take (blankN l))).2 + tokLen (c :: r)) (n + 1) ((c :: r).drop (tokLen (c :: r)))).2.1 = 0 then (nextT (c :: r) (adv p (l.take (blankN l)))).1 :: (toks ((adv p (l.take (blankN l))).1, (adv p (l.take (blankN l))).2 + tokLen (c :: r)) (n + 1) ((c :: r).drop (tokLen (c :: r)))).1 else [],
          (toks ((adv p (l.take (blankN l))).1, (adv p (l.take (blankN l))).2 + tokLen (c :: r)) (n + 1) ((c :: r).drop (tokLen (c :: r)))).2)
      else ([], errT (c :: r) (adv p (l.take (blankN l))) n, (adv p (l.take (blankN l))).1, (adv p (l.take (blankN l))).2) := by
  rw [toks]
  split
  · rename_i h'; rw [h] at h'; cases h'
  · rename_i c' r' h'
    rw [h] at h'; cases h'
    generalize adv p (l.take (blankN l)) = p1
    by_cases hc : cls c.toNat = 0
    · have e : errT (c :: r) p1 n = 20 := by simp [errT, nextT, hc]
      simp only [dif_pos hc, e]
      rfl
    · simp only [dif_neg hc]
      have ha : adv p1 ((c :: r).take (tokLen (c :: r))) = (p1.1, p1.2 + tokLen (c :: r)) := by
        rw [adv_plain (tok_plain hc), List.length_take, Nat.min_eq_left (tokLen_le _)]
      rw [ha]
      have e : errT (c :: r) p1 n = errOf (kindS (cls c.toNat) ((c :: r).take (tokLen (c :: r)))) ((c :: r).take (tokLen (c :: r))) n := by
        unfold errT errOf
        simp only [nextT, if_neg hc]
        generalize (c :: r).take (tokLen (c :: r)) = t
        generalize kindS (cls c.toNat) t = k
        split <;> split <;> simp_all
      have f : errOf (kindS (cls c.toNat) ((c :: r).take (tokLen (c :: r)))) ((c :: r).take (tokLen (c :: r))) n = 0 →
          (nextT (c :: r) p1).1 = tok (kindS (cls c.toNat) ((c :: r).take (tokLen (c :: r)))) ((c :: r).take (tokLen (c :: r))) (if kindS (cls c.toNat) ((c :: r).take (tokLen (c :: r))) = 4 then (valS ((c :: r).take (tokLen (c :: r)))).1 else 0) p1 := by
        intro h0
        rw [← e] at h0
        unfold errT at h0
        simp only [nextT, if_neg hc] at h0 ⊢
        generalize (c :: r).take (tokLen (c :: r)) = t at h0 ⊢
        generalize kindS (cls c.toNat) t = k at h0 ⊢
        by_cases hk : k = 4
        · simp only [if_pos hk] at h0 ⊢
          by_cases hv : (valS t).2 = 0
          · simp only [if_pos hv]
          · simp only [if_neg hv] at h0 ⊢
            simp [hv] at h0
        · simp only [if_neg hk] at h0 ⊢
          by_cases hv : t.length > 32
          · simp [hv] at h0
          · simp only [if_neg hv]
      rw [e]
      split
      · rename_i h0; rw [f h0]
      · rfl
theorem toks_err {p : Int × Int} {n : Nat} {l : L} (h : (toks p n l).2.1 ≠ 0) : (toks p n l).1 = [] := by
  cases hd : l.drop (blankN l) with
  | nil => rw [toks_nil hd]
  | cons c r =>
    rw [toks_next hd] at h ⊢
    split
    · rename_i h0
      rw [if_pos h0] at h
      exact if_neg h
    · rfl
theorem tokens_T (src : L) : T Tryz.prog 73 [.str src] [] (.tup [toksV true (tokens src).1, .agg [.int .i64 (tokens src).2.1, .int .i64 (tokens src).2.2.1, .int .i64 (tokens src).2.2.2]]) [] := by
  refine T.of0 mix c_lex_Tokens rfl ?_
  generalize hK : end0 _ _ = K
  have hend : ∀ {l : List Tok} {L : List (Nat × V)} {d : V} {H : Heap} {e a b : Int}, tokens src = (l, e, a, b) → getE L d 2 = toksV true l → getE L d 3 = .ptr 0 0 0 → getCells H 0 0 = some [.int .i64 e, .int .i64 a, .int .i64 b] → K .ret ⟨L, d⟩ H := by
    intro l L d H e a b h0 h2 h3 hg
    rw [← hK, h0]
    refine ⟨trivial, .tup [toksV true l, .agg [.int .i64 e, .int .i64 a, .int .i64 b]], ?_, _, rfl, rfl⟩
    show resV 0 H (En.f ⟨L, d⟩) [.tmp 2, .cell 3 3 true] = _
    simp only [resV, resL, res1, En.f, h2, h3, hg, Option.bind_some, pack, Option.map_some]
    rfl
  unfold v_lex_Tokens
  simp only [go_sem, ↓reduceIte, getCells]
  refine ⟨fun hgt => ?_, fun hle => ?_⟩
  · exact hend (l := []) (e := 2) (a := 1) (b := 1) (by unfold tokens; rw [if_pos (by omega)]) rfl rfl rfl
  have hn : src.length ≤ 8192 := by omega
  refine WP.loop' (fun m E H => ∃ (l : List Tok) (j : Nat) (ln co : Int) (ex : List (Nat × V)) (d : V), getCells H 0 0 = some [.int .i64 0, .int .i64 0, .int .i64 0] ∧ getCells H 2 0 = some (rdC src j ln co) ∧ RdI src.length j ln co ∧ m = src.length - j ∧ l.length ≤ 2048 ∧
      tokens src = (if (toks (ln, co) l.length (src.drop j)).2.1 = 0 then l ++ (toks (ln, co) l.length (src.drop j)).1 else [], (toks (ln, co) l.length (src.drop j)).2) ∧
      E = ⟨(3, .ptr 0 0 0) :: (5, .ptr 2 0 0) :: (6, toksV true l) :: ex, d⟩) (n := src.length)
    ⟨[], 0, 1, 1, _, _, rfl, rfl, ⟨by omega, by omega, by simp, by omega, by simp⟩, rfl, by simp, ?_, rfl⟩ ?_
  · unfold tokens
    rw [if_neg (by omega), List.drop_zero]
    by_cases h : (toks (1, 1) 0 src).2.1 = 0
    · simp [h]
    · simp only [List.length_nil, if_neg h]
      exact Prod.ext (toks_err h) rfl
  rintro m E H ⟨l, j, ln, co, ex, d, g0, g2, hr, rfl, hl, hJ, rfl⟩
  simp only [go_sem, ↓reduceIte, Int.toNat_natCast, ↓run_addW, ↓run_subW, List.append_assoc]
  obtain ⟨hT, hr1⟩ := lexSkip_T g2 hr hn
  refine ⟨_, _, hT, ?_⟩
  have hlt2 := gc_lt g2
  have hdd : src.drop (j + blankN (src.drop j)) = (src.drop j).drop (blankN (src.drop j)) := by rw [List.drop_drop]
  generalize hp1 : adv (ln, co) ((src.drop j).take (blankN (src.drop j))) = p1 at hr1
  generalize hj1 : j + blankN (src.drop j) = j1 at hr1 hdd
  obtain ⟨ln1, co1⟩ := p1
  have hjj : j ≤ j1 := by omega
  have g0' := gcS g0 (j := 2) (by omega) (.cells 0 (rdC src j1 ln1 co1))
  have g2' : getCells (H.set 2 (.cells 0 (rdC src j1 ln1 co1))) 2 0 = some (rdC src j1 ln1 co1) := gc_same hlt2
  generalize hH1 : H.set 2 (.cells 0 (rdC src j1 ln1 co1)) = H1 at g0' g2' ⊢
  have hlt1 := gc_lt g2'
  have g2'' := g2'
  simp only [rdC] at g2''
  simp only [go_sem, ↓reduceIte, Int.toNat_natCast, ↓run_addW, ↓run_subW, List.append_assoc, ↓g2'', toksV, decide_eq_true_eq]
  refine ⟨fun hlt => ?_, fun hge => ?_⟩
  · have e1 : getCells (H1 ++ [.cells 0 [.int .i64 ln1, .int .i64 co1]]) 2 0 = some (rdC src j1 ln1 co1) := gcL g2' _
    have e0 := gcL g0' [.cells 0 [.int .i64 ln1, .int .i64 co1]]
    have e3 : getCells (H1 ++ [.cells 0 [.int .i64 ln1, .int .i64 co1]]) H1.length 0 = some [.int .i64 ln1, .int .i64 co1] := gc_new
    have hT2 := lexNext_T (H1 ++ [.cells 0 [.int .i64 ln1, .int .i64 co1]]) 2 (by simp; omega) hlt hr1 hn
    rw [gc_self e1] at hT2
    obtain ⟨c, hc⟩ := get_lt (src := src) (i := j1) hlt
    have hd1 := drop_get hc
    have hnx := toks_next (p := (ln, co)) (n := l.length) (hdd.symm.trans hd1)
    rw [hp1, ← hd1] at hnx
    have htl := tokLen_le (src.drop j1)
    rw [List.length_drop] at htl
    rw [List.drop_drop] at hnx
    have hpos : (nextT (src.drop j1) (ln1, co1)).2 = 0 → 0 < tokLen (src.drop j1) := by
      rw [hd1]
      intro h
      by_cases hc0 : cls c.toNat = 0
      · simp [nextT, hc0] at h
      · simp only [tokLen, if_neg hc0]; omega
    generalize hT3 : tokLen (src.drop j1) = tl at htl hnx hpos hT2
    have herr : errT (src.drop j1) (ln1, co1) l.length = if (nextT (src.drop j1) (ln1, co1)).2 = 0 ∧ l.length ≥ 2048 then 2 else (nextT (src.drop j1) (ln1, co1)).2 := rfl
    generalize errT (src.drop j1) (ln1, co1) l.length = er at hnx herr
    rcases hN : nextT (src.drop j1) (ln1, co1) with ⟨tk, e⟩
    rw [hN] at hT2 hnx herr hpos
    simp only at hT2 hnx herr hpos
    obtain ⟨r0, r1, r2, r3, r4⟩ := hr1
    have hr2 : RdI src.length (j1 + tl) ln1 (co1 + tl) := ⟨by omega, r1, by omega, by omega, by omega⟩
    generalize hH2 : (H1 ++ [Obj.cells 0 [.int .i64 ln1, .int .i64 co1]]).set 2 (.cells 0 (rdC src (j1 + tl) ln1 (co1 + tl))) = H2 at hT2
    have hlen : H1.length + 1 = H2.length := by rw [← hH2]; simp
    have k0 : getCells H2 0 0 = some [.int .i64 0, .int .i64 0, .int .i64 0] := by rw [← hH2]; exact gcS e0 (by omega) _
    have k2 : getCells H2 2 0 = some (rdC src (j1 + tl) ln1 (co1 + tl)) := by rw [← hH2]; exact gc_same (by simp; omega)
    have k3 : getCells H2 H1.length 0 = some [.int .i64 ln1, .int .i64 co1] := by rw [← hH2]; exact gcS e3 (by omega) _
    simp only [go_sem, ↓reduceIte, Int.toNat_natCast, ↓run_addW, ↓run_subW, List.append_assoc, ↓gc_new, stX]
    refine ⟨_, _, hT2, ?_⟩
    simp only [go_sem, ↓reduceIte, Int.toNat_natCast, ↓run_addW, ↓run_subW, List.append_assoc, ↓gc_new, stX, tokC, ↓gcL k0, ↓gcL k2, ↓gcL k3]
    have hbad : ∀ {e : Int} {L : Heap} {d : V}, e = er → er ≠ 0 → K .ret ⟨[(2, .sl true 6 []), (3, .ptr 0 0 0)], d⟩ ((H2 ++ L).set 0 (.cells 0 [.int .i64 e, .int .i64 ln1, .int .i64 co1])) := by
      intro e L d h1 h2
      subst h1
      refine hend (l := []) ?_ rfl rfl (gc_same (by simp; omega))
      rw [hJ, hnx, if_neg h2, if_neg h2]
    by_cases he : e = 0
    · have b1 : (e == 0) = true := by simp [he]
      have b2 : (e != 0) = false := by simp [he]
      simp only [go_sem, ↓reduceIte, Int.toNat_natCast, ↓run_addW, ↓run_subW, List.append_assoc, ↓gc_new, stX, tokC, ↓gcL k0, ↓gcL k2, ↓gcL k3, b1, b2]
      refine ⟨fun hge => ⟨fun _ => hbad ?_ ?_, fun h => absurd h (by decide)⟩, fun hlt2048 => ?_⟩
      · rw [herr, if_pos ⟨he, by omega⟩]
      · rw [herr, if_pos ⟨he, by omega⟩]; decide
      have her : er = 0 := by rw [herr, if_neg (by rintro ⟨_, h⟩; omega)]; exact he
      have hp := hpos he
      rw [if_pos her] at hnx
      refine ⟨by simp [fits]; omega, src.length - (j1 + tl), by omega, l ++ [tk], j1 + tl, ln1, co1 + tl, [], .u, rfl, hr2, rfl, by simp; omega, ?_, ?_⟩
      · rw [hJ, hnx]
        rw [List.length_append, List.length_singleton]
        by_cases hq : (toks (ln1, co1 + tl) (l.length + 1) (src.drop (j1 + tl))).2.1 = 0
        · simp only [hq, ↓reduceIte, List.append_assoc, List.singleton_append]
        · simp only [if_neg hq]
      · rw [List.map_append]; rfl
    · have b1 : (e == 0) = false := by simp [he]
      have b2 : (e != 0) = true := by simp [he]
      have her : er = e := by rw [herr, if_neg (by rintro ⟨h, _⟩; exact he h)]
      simp only [go_sem, ↓reduceIte, Int.toNat_natCast, ↓run_addW, ↓run_subW, List.append_assoc, ↓gc_new, stX, tokC, ↓gcL k0, ↓gcL k2, ↓gcL k3, b1, b2]
      exact hbad her.symm (by rw [her]; exact he)
  · have hz : (src.drop j).drop (blankN (src.drop j)) = [] := by rw [← hdd]; exact List.drop_of_length_le (by omega)
    simp only [go_sem, ↓reduceIte, Int.toNat_natCast, ↓run_addW, ↓run_subW, List.append_assoc, ↓g0']
    refine hend (l := l) ?_ rfl rfl (gc_same (by omega))
    rw [hJ, toks_nil hz]; simp
end Go.Proofs.YtoaohapbbnpbeaaGreat.Vm
namespace Go.Proofs.YtoaohapbbnpbeaaGreat.Vm
open Go

theorem alC_eq (p : Pa) (rs : List Rh) : alC (.mk p rs) = paC p ++ [.sl false 10 (rs.map rhC)] := by rw [alC]
theorem rhC_eq (g : List Ex) (b : Ex) : rhC (.mk g b) = .sl false 9 (g.map exC) :: exC b := by rw [rhC]
theorem clC_eq (ps : List Pa) (rs : List Rh) : clC (.mk ps rs) = [.sl false 6 (ps.map paC), .sl false 10 (rs.map rhC)] := by rw [clC]
theorem biC_eq (s : Str) (cs : List Cl) (l c : Int) : biC (.mk s cs l c) = [.str s, .sl false 2 (cs.map clC), .int .i64 l, .int .i64 c] := by rw [biC]
theorem stC_eq (s : Str) : stC s = [.str s] := rfl
@[go_sem] theorem norm0_agg {cs : List V} : norm0 (.agg cs) = .agg (cs.map inl0) := rfl
@[go_sem] theorem norm0_sl {o : Bool} {z : Nat} {xs : List (List V)} : norm0 (.sl o z xs) = .sl false z xs := rfl
@[go_sem] theorem norm0_nilh {z : Nat} : norm0 (.nilh z) = .sl false z [] := rfl
@[go_sem] theorem norm0_int {k : IntKind} {n : Int} : norm0 (.int k n) = .int k n := rfl
@[go_sem] theorem norm0_bool {b : Bool} : norm0 (.bool b) = .bool b := rfl
@[go_sem] theorem norm0_str {b : List UInt8} : norm0 (.str b) = .str b := rfl
@[go_sem] theorem norm0_ptr {a b c : Nat} : norm0 (.ptr a b c) = .ptr a b c := rfl
@[go_sem] theorem inl0_sl {o : Bool} {z : Nat} {xs : List (List V)} : inl0 (.sl o z xs) = .sl false z xs := rfl
@[go_sem] theorem inl0_nilh {z : Nat} : inl0 (.nilh z) = .sl false z [] := rfl
@[go_sem] theorem inl0_int {k : IntKind} {n : Int} : inl0 (.int k n) = .int k n := rfl
@[go_sem] theorem inl0_bool {b : Bool} : inl0 (.bool b) = .bool b := rfl
@[go_sem] theorem inl0_str {b : List UInt8} : inl0 (.str b) = .str b := rfl
/-- What all cells of a program's parts are like. -/
structure Cells (n : Nat) (cs : List V) : Prop where
  len : cs.length = n
  strip : cs.map strip0 = cs
  inl : cs.map inl0 = cs
  ids : ∀ m, idsL m cs = true
  p1 : cs.all plain1 = true
  pc : cs.all plainC = true
theorem Cells.append {n m : Nat} {a b : List V} (h : Cells n a) (k : Cells m b) : Cells (n + m) (a ++ b) where
  len := by rw [List.length_append, h.len, k.len]
  strip := by rw [List.map_append, h.strip, k.strip]
  inl := by rw [List.map_append, h.inl, k.inl]
  ids := fun m => by rw [idsL_all, List.all_append, ← idsL_all, ← idsL_all, h.ids, k.ids]; rfl
  p1 := by rw [List.all_append, h.p1, k.p1]; rfl
  pc := by rw [List.all_append, h.pc, k.pc]; rfl
theorem cells_of {n : Nat} {cs : List V} (h0 : cs.length = n) (h : cs.map strip0 = cs) (h2 : cs.map inl0 = cs) (h3 : ∀ m, idsL m cs = true) (h4 : cs.all plain1 = true) (h5 : cs.all plainC = true) : Cells n cs := ⟨h0, h, h2, h3, h4, h5⟩
theorem tyC_ok (x : Ty) : Cells 4 (tyC x) := by cases x; rw [tyC_eq]; exact cells_of rfl rfl rfl (fun _ => rfl) rfl rfl
theorem paC_ok (x : Pa) : Cells 6 (paC x) := by cases x; rw [paC_eq]; exact cells_of rfl rfl rfl (fun _ => rfl) rfl rfl
theorem exC_ok (x : Ex) : Cells 9 (exC x) := by cases x; rw [exC_eq]; exact cells_of rfl rfl rfl (fun _ => rfl) rfl rfl
theorem alC_ok (x : Al) : Cells 7 (alC x) := by cases x; rw [alC_eq]; exact (paC_ok _).append (cells_of (cs := [.sl false 10 _]) (n := 1) rfl rfl rfl (fun _ => rfl) rfl rfl)
theorem rhC_ok (x : Rh) : Cells 10 (rhC x) := by
  cases x with
  | mk g b =>
    rw [rhC_eq]
    exact (cells_of (cs := [.sl false 9 (g.map exC)]) (n := 1) rfl rfl rfl (fun _ => rfl) rfl rfl).append (exC_ok b)
theorem clC_ok (x : Cl) : Cells 2 (clC x) := by cases x; rw [clC_eq]; exact cells_of rfl rfl rfl (fun _ => rfl) rfl rfl
theorem biC_ok (x : Bi) : Cells 4 (biC x) := by cases x; rw [biC_eq]; exact cells_of rfl rfl rfl (fun _ => rfl) rfl rfl
@[go_sem] theorem tyC_len {x : Ty} : (tyC x).length = 4 := (tyC_ok x).len
@[go_sem] theorem tyC_take {x : Ty} : List.take 4 (tyC x) = tyC x := List.take_of_length_le (by rw [tyC_len]; exact Nat.le_refl _)
@[go_sem] theorem tyC_drop {x : Ty} : List.drop 4 (tyC x) = [] := List.drop_of_length_le (by rw [tyC_len]; exact Nat.le_refl _)
@[go_sem] theorem tyC_strip {x : Ty} : (tyC x).map strip0 = tyC x := (tyC_ok x).strip
@[go_sem] theorem tyC_inl {x : Ty} : (tyC x).map inl0 = tyC x := (tyC_ok x).inl
@[go_sem] theorem tyC_ids {x : Ty} {m : Nat} : idsL m (tyC x) = true := (tyC_ok x).ids m
@[go_sem] theorem tyC_p1 {x : Ty} : (tyC x).all plain1 = true := (tyC_ok x).p1
@[go_sem] theorem tyC_pc {x : Ty} : (tyC x).all plainC = true := (tyC_ok x).pc
@[go_sem] theorem paC_len {x : Pa} : (paC x).length = 6 := (paC_ok x).len
@[go_sem] theorem paC_take {x : Pa} : List.take 6 (paC x) = paC x := List.take_of_length_le (by rw [paC_len]; exact Nat.le_refl _)
@[go_sem] theorem paC_drop {x : Pa} : List.drop 6 (paC x) = [] := List.drop_of_length_le (by rw [paC_len]; exact Nat.le_refl _)
@[go_sem] theorem paC_strip {x : Pa} : (paC x).map strip0 = paC x := (paC_ok x).strip
@[go_sem] theorem paC_inl {x : Pa} : (paC x).map inl0 = paC x := (paC_ok x).inl
@[go_sem] theorem paC_ids {x : Pa} {m : Nat} : idsL m (paC x) = true := (paC_ok x).ids m
@[go_sem] theorem paC_p1 {x : Pa} : (paC x).all plain1 = true := (paC_ok x).p1
@[go_sem] theorem paC_pc {x : Pa} : (paC x).all plainC = true := (paC_ok x).pc
@[go_sem] theorem exC_len {x : Ex} : (exC x).length = 9 := (exC_ok x).len
@[go_sem] theorem exC_take {x : Ex} : List.take 9 (exC x) = exC x := List.take_of_length_le (by rw [exC_len]; exact Nat.le_refl _)
@[go_sem] theorem exC_drop {x : Ex} : List.drop 9 (exC x) = [] := List.drop_of_length_le (by rw [exC_len]; exact Nat.le_refl _)
@[go_sem] theorem exC_strip {x : Ex} : (exC x).map strip0 = exC x := (exC_ok x).strip
@[go_sem] theorem exC_inl {x : Ex} : (exC x).map inl0 = exC x := (exC_ok x).inl
@[go_sem] theorem exC_ids {x : Ex} {m : Nat} : idsL m (exC x) = true := (exC_ok x).ids m
@[go_sem] theorem exC_p1 {x : Ex} : (exC x).all plain1 = true := (exC_ok x).p1
@[go_sem] theorem exC_pc {x : Ex} : (exC x).all plainC = true := (exC_ok x).pc
@[go_sem] theorem alC_len {x : Al} : (alC x).length = 7 := (alC_ok x).len
@[go_sem] theorem alC_take {x : Al} : List.take 7 (alC x) = alC x := List.take_of_length_le (by rw [alC_len]; exact Nat.le_refl _)
@[go_sem] theorem alC_drop {x : Al} : List.drop 7 (alC x) = [] := List.drop_of_length_le (by rw [alC_len]; exact Nat.le_refl _)
@[go_sem] theorem alC_strip {x : Al} : (alC x).map strip0 = alC x := (alC_ok x).strip
@[go_sem] theorem alC_inl {x : Al} : (alC x).map inl0 = alC x := (alC_ok x).inl
@[go_sem] theorem alC_ids {x : Al} {m : Nat} : idsL m (alC x) = true := (alC_ok x).ids m
@[go_sem] theorem alC_p1 {x : Al} : (alC x).all plain1 = true := (alC_ok x).p1
@[go_sem] theorem alC_pc {x : Al} : (alC x).all plainC = true := (alC_ok x).pc
@[go_sem] theorem rhC_len {x : Rh} : (rhC x).length = 10 := (rhC_ok x).len
@[go_sem] theorem rhC_take {x : Rh} : List.take 10 (rhC x) = rhC x := List.take_of_length_le (by rw [rhC_len]; exact Nat.le_refl _)
@[go_sem] theorem rhC_drop {x : Rh} : List.drop 10 (rhC x) = [] := List.drop_of_length_le (by rw [rhC_len]; exact Nat.le_refl _)
@[go_sem] theorem rhC_strip {x : Rh} : (rhC x).map strip0 = rhC x := (rhC_ok x).strip
@[go_sem] theorem rhC_inl {x : Rh} : (rhC x).map inl0 = rhC x := (rhC_ok x).inl
@[go_sem] theorem rhC_ids {x : Rh} {m : Nat} : idsL m (rhC x) = true := (rhC_ok x).ids m
@[go_sem] theorem rhC_p1 {x : Rh} : (rhC x).all plain1 = true := (rhC_ok x).p1
@[go_sem] theorem rhC_pc {x : Rh} : (rhC x).all plainC = true := (rhC_ok x).pc
@[go_sem] theorem clC_len {x : Cl} : (clC x).length = 2 := (clC_ok x).len
@[go_sem] theorem clC_take {x : Cl} : List.take 2 (clC x) = clC x := List.take_of_length_le (by rw [clC_len]; exact Nat.le_refl _)
@[go_sem] theorem clC_drop {x : Cl} : List.drop 2 (clC x) = [] := List.drop_of_length_le (by rw [clC_len]; exact Nat.le_refl _)
@[go_sem] theorem clC_strip {x : Cl} : (clC x).map strip0 = clC x := (clC_ok x).strip
@[go_sem] theorem clC_inl {x : Cl} : (clC x).map inl0 = clC x := (clC_ok x).inl
@[go_sem] theorem clC_ids {x : Cl} {m : Nat} : idsL m (clC x) = true := (clC_ok x).ids m
@[go_sem] theorem clC_p1 {x : Cl} : (clC x).all plain1 = true := (clC_ok x).p1
@[go_sem] theorem clC_pc {x : Cl} : (clC x).all plainC = true := (clC_ok x).pc
@[go_sem] theorem biC_len {x : Bi} : (biC x).length = 4 := (biC_ok x).len
@[go_sem] theorem biC_take {x : Bi} : List.take 4 (biC x) = biC x := List.take_of_length_le (by rw [biC_len]; exact Nat.le_refl _)
@[go_sem] theorem biC_drop {x : Bi} : List.drop 4 (biC x) = [] := List.drop_of_length_le (by rw [biC_len]; exact Nat.le_refl _)
@[go_sem] theorem biC_strip {x : Bi} : (biC x).map strip0 = biC x := (biC_ok x).strip
@[go_sem] theorem biC_inl {x : Bi} : (biC x).map inl0 = biC x := (biC_ok x).inl
@[go_sem] theorem biC_ids {x : Bi} {m : Nat} : idsL m (biC x) = true := (biC_ok x).ids m
@[go_sem] theorem biC_p1 {x : Bi} : (biC x).all plain1 = true := (biC_ok x).p1
@[go_sem] theorem biC_pc {x : Bi} : (biC x).all plainC = true := (biC_ok x).pc
@[go_sem] theorem tyC_thaw {x : Ty} {H : Heap} : thawL (tyC x) H = (tyC x, H) := thawL_all tyC_pc
@[go_sem] theorem paC_thaw {x : Pa} {H : Heap} : thawL (paC x) H = (paC x, H) := thawL_all paC_pc
@[go_sem] theorem exC_thaw {x : Ex} {H : Heap} : thawL (exC x) H = (exC x, H) := thawL_all exC_pc
@[go_sem] theorem alC_thaw {x : Al} {H : Heap} : thawL (alC x) H = (alC x, H) := thawL_all alC_pc
@[go_sem] theorem rhC_thaw {x : Rh} {H : Heap} : thawL (rhC x) H = (rhC x, H) := thawL_all rhC_pc
@[go_sem] theorem clC_thaw {x : Cl} {H : Heap} : thawL (clC x) H = (clC x, H) := thawL_all clC_pc
@[go_sem] theorem biC_thaw {x : Bi} {H : Heap} : thawL (biC x) H = (biC x, H) := thawL_all biC_pc
@[go_sem] theorem paC_takeA {x : Pa} {l : List V} : List.take 6 (paC x ++ l) = paC x := by rw [List.take_append_of_le_length (by rw [paC_len]; exact Nat.le_refl _), paC_take]
@[go_sem] theorem paC_dropA {x : Pa} {l : List V} : List.drop 6 (paC x ++ l) = l := by rw [List.drop_append_of_le_length (by rw [paC_len]; exact Nat.le_refl _), paC_drop, List.nil_append]
@[go_sem] theorem eqV_ii {a b x y : Int} : eqV [.i, .i] true (.agg [.int .i64 a, .int .i64 b]) (.agg [.int .i64 x, .int .i64 y]) = some (a == x && (b == y && true)) := rfl
theorem map_get {α β : Type} {f : α → β} {l : List α} {i : Nat} {x : α} (h : l[i]? = some x) : (l.map f)[i]? = some (f x) := by rw [List.getElem?_map, h]; rfl
theorem size_get {α : Type} [SizeOf α] {l : List α} {i : Nat} {x : α} (h : l[i]? = some x) : SizeOf.sizeOf x < SizeOf.sizeOf l := List.sizeOf_lt_of_mem (List.mem_of_getElem? h)
theorem getL {α : Type} {l : List α} {i : Nat} (h : i < l.length) : ∃ x, l[i]? = some x ∧ x ∈ l := ⟨_, List.getElem?_eq_getElem h, List.getElem_mem h⟩
end Go.Proofs.YtoaohapbbnpbeaaGreat.Vm
namespace Go.Proofs.YtoaohapbbnpbeaaGreat.Vm
open Go

def cellT (v : V) (n : Nat) (H : Heap) (F : V → Prop) : Prop := match v with
  | .ptr id ver off => ∃ cs, getCells H id ver = some cs ∧ off + n ≤ cs.length ∧ F (.agg (((cs.drop off).take n).map strip0))
  | _ => False
def cellTG (x : Option (List V)) (off n : Nat) (F : V → Prop) : Prop := ∃ cs, x = some cs ∧ off + n ≤ cs.length ∧ F (.agg (((cs.drop off).take n).map strip0))
section
variable {R : V → Prop} {l : List (Nat × V)} {d : V} {H : Heap} {t u n m : Nat} {F : V → Prop}
@[go_sem] theorem cellT_ptr {id ver off : Nat} : cellT (.ptr id ver off) n H F = cellTG (getCells H id ver) off n F := (rfl)
@[go_sem] theorem cellTG_some {cs : List V} {off : Nat} : cellTG (some cs) off n F = (off + n ≤ cs.length ∧ F (.agg (((cs.drop off).take n).map strip0))) := by
  apply propext
  constructor
  · rintro ⟨v, h, k⟩; cases h; exact k
  · intro k; exact ⟨cs, rfl, k⟩
/-- What stays as it is when it is answered, structs too. -/
def fixQ : V → Bool
  | .agg cs => cs.all fixP
  | v => fixP v
theorem fixQ_eq {v : V} (h : fixQ v = true) (m : Nat) (H : Heap) (d : Nat) : fixV m H (d + 2) v = some v := by
  cases v with
  | agg cs => simp only [fixV, fixP_list (show cs.all fixP = true from h)]; rfl
  | _ => first | exact fixP_eq (by exact h) m H (d + 1) | cases h
@[go_sem] theorem fixQ_int {k : IntKind} {n : Int} : fixQ (.int k n) = true := (rfl)
@[go_sem] theorem fixQ_bool {b : Bool} : fixQ (.bool b) = true := (rfl)
@[go_sem] theorem fixQ_str {b : List UInt8} : fixQ (.str b) = true := (rfl)
@[go_sem] theorem fixQ_sl {o : Bool} {z : Nat} {xs : List (List V)} : fixQ (.sl o z xs) = true := (rfl)
@[go_sem] theorem fixQ_agg {cs : List V} : fixQ (.agg cs) = cs.all fixP := (rfl)
@[go_sem] theorem fin0_str {b : List UInt8} : fin0 H (.str b) R = R (.str b) := by simp [fin0, fixV]
@[go_sem] theorem fin0_tup2 {a b : V} (ha : fixQ a = true) (hb : fixQ b = true) : fin0 H (.tup [a, b]) R = R (.tup [a, b]) := by
  unfold fin0
  rw [fixd_tup2, fixQ_eq ha 0 H 5, fixQ_eq hb 0 H 5]
  simp
theorem cellT_res {σ : Env} {G : V → Option V} {X : V → Prop} : (∃ r0, (res1 H σ (.cell t n true)).bind G = some r0 ∧ X r0) ↔ cellT (σ t) n H fun w => ∃ r0, G w = some r0 ∧ X r0 := by
  have e : res1 H σ (.cell t n true) = match σ t with
    | .ptr id ver off => (getCells H id ver).bind fun cs => (cut cs off n).bind fun l => mk true (l.map strip0)
    | _ => none := rfl
  rw [e]; clear e
  unfold cellT
  generalize σ t = v
  cases v <;> first | (simp; done) | skip
  rename_i id ver off
  simp only
  constructor
  · rintro ⟨r0, h, k⟩
    obtain ⟨w, h1, h2⟩ := Option.bind_eq_some_iff.1 h
    obtain ⟨cs, h3, h⟩ := Option.bind_eq_some_iff.1 h1
    obtain ⟨l, h4, h⟩ := Option.bind_eq_some_iff.1 h
    cases h
    unfold cut at h4
    split at h4
    · cases h4
      exact ⟨cs, h3, by assumption, r0, h2, k⟩
    · cases h4
  · rintro ⟨cs, h3, hl, r0, h2, k⟩
    refine ⟨r0, ?_, k⟩
    rw [h3]
    simp only [Option.bind_some, cut, hl, if_true, mk]
    exact h2
@[go_sem] theorem end0_ct : end0 [.cell t n true, .tmp u] R .ret ⟨l, d⟩ H = cellT (getE l d t) n H fun v => fin0 H (.tup [v, getE l d u]) R := by
  apply propext
  have h := cellT_res (H := H) (t := t) (n := n) (σ := En.f ⟨l, d⟩) (G := fun w => some (.tup [w, getE l d u])) (X := fun r0 => fin0 H r0 R)
  have e : resV 0 H (En.f ⟨l, d⟩) [.cell t n true, .tmp u] = (res1 H (En.f ⟨l, d⟩) (.cell t n true)).bind fun w => some (.tup [w, getE l d u]) := by
    show Option.map pack ((res1 H (En.f ⟨l, d⟩) (.cell t n true)).bind _) = _
    cases res1 H (En.f ⟨l, d⟩) (.cell t n true) <;> rfl
  unfold end0
  rw [e]
  simp only [true_and]
  refine Iff.trans h ?_
  simp [En.f]
@[go_sem] theorem end0_tc : end0 [.tmp u, .cell t n true] R .ret ⟨l, d⟩ H = cellT (getE l d t) n H fun v => fin0 H (.tup [getE l d u, v]) R := by
  apply propext
  have h := cellT_res (H := H) (t := t) (n := n) (σ := En.f ⟨l, d⟩) (G := fun w => some (.tup [getE l d u, w])) (X := fun r0 => fin0 H r0 R)
  have e : resV 0 H (En.f ⟨l, d⟩) [.tmp u, .cell t n true] = (res1 H (En.f ⟨l, d⟩) (.cell t n true)).bind fun w => some (.tup [getE l d u, w]) := by
    show Option.map pack ((res1 H (En.f ⟨l, d⟩) (.tmp u)).bind fun v => Option.map _ ((res1 H (En.f ⟨l, d⟩) (.cell t n true)).bind _)) = _
    cases res1 H (En.f ⟨l, d⟩) (.cell t n true) <;> rfl
  unfold end0
  rw [e]
  simp only [true_and]
  refine Iff.trans h ?_
  simp [En.f]
@[go_sem] theorem end0_cc {t' n' : Nat} : end0 [.cell t n true, .cell t' n' true] R .ret ⟨l, d⟩ H = cellT (getE l d t) n H fun v => cellT (getE l d t') n' H fun v' => fin0 H (.tup [v, v']) R := by
  apply propext
  have h := cellT_res (H := H) (t := t) (n := n) (σ := En.f ⟨l, d⟩) (G := fun w => (res1 H (En.f ⟨l, d⟩) (.cell t' n' true)).bind fun w' => some (.tup [w, w'])) (X := fun r0 => fin0 H r0 R)
  have e : resV 0 H (En.f ⟨l, d⟩) [.cell t n true, .cell t' n' true] = (res1 H (En.f ⟨l, d⟩) (.cell t n true)).bind fun w => (res1 H (En.f ⟨l, d⟩) (.cell t' n' true)).bind fun w' => some (.tup [w, w']) := by
    show Option.map pack ((res1 H (En.f ⟨l, d⟩) (.cell t n true)).bind fun v => Option.map _ ((res1 H (En.f ⟨l, d⟩) (.cell t' n' true)).bind _)) = _
    cases res1 H (En.f ⟨l, d⟩) (.cell t n true) <;> cases res1 H (En.f ⟨l, d⟩) (.cell t' n' true) <;> rfl
  unfold end0
  rw [e]
  simp only [true_and]
  refine Iff.trans h ?_
  have : (fun w => ∃ r0, ((res1 H (En.f ⟨l, d⟩) (.cell t' n' true)).bind fun w' => some (V.tup [w, w'])) = some r0 ∧ fin0 H r0 R) = fun v => cellT (getE l d t') n' H fun v' => fin0 H (.tup [v, v']) R := by
    funext w
    apply propext
    refine Iff.trans (cellT_res (H := H) (t := t') (n := n') (σ := En.f ⟨l, d⟩) (G := fun w' => some (.tup [w, w'])) (X := fun r0 => fin0 H r0 R)) ?_
    simp [En.f]
  rw [this]; rfl
end
end Go.Proofs.YtoaohapbbnpbeaaGreat.Vm
namespace Go.Proofs.YtoaohapbbnpbeaaGreat.Vm
open Go Lx
set_option linter.unusedSimpArgs false

theorem tokens_P (src : L) : Pu 73 [.str src] (.tup [toksV true (tokens src).1, .agg [.int .i64 (tokens src).2.1, .int .i64 (tokens src).2.2.1, .int .i64 (tokens src).2.2.2]]) := ⟨tokens_T src, rfl⟩
def oneV (s : L) : V := .tup [.agg (tokC ((one s).getD tok0)), .bool (one s).isSome]
theorem oneV_some {s : L} {t : Tok} (h : one s = some t) : oneV s = .tup [.agg (tokC t), .bool true] := by unfold oneV; rw [h]; rfl
theorem oneV_none {s : L} (h : one s = none) : oneV s = .tup [.agg (tokC tok0), .bool false] := by unfold oneV; rw [h]; rfl
theorem one_of {s : L} {l : List Tok} {e a b : Int} (htk : tokens s = (l, e, a, b)) : one s = if e = 0 ∧ l.length = 1 ∧ (∃ t, l[0]? = some t ∧ t.s = s) then l[0]? else none := by
  unfold one
  rw [htk]
  split
  · rename_i t q heq
    cases heq
    by_cases h : t.s = s <;> simp [h]
  · rename_i hne
    rw [if_neg]
    rintro ⟨h1, h2, t, h3, h4⟩
    match l, h2 with
    | [x], _ => exact hne x (a, b) (by rw [h1])
theorem lexOne_P (s : L) : Pu 68 [.str s] (oneV s) := by
  refine ⟨?_, rfl⟩
  refine T.of0 mix c_lex_One rfl ?_
  have hT := tokens_P s
  unfold v_lex_One
  simp only [go_sem, ↓reduceIte]
  refine ⟨_, _, hT.at rfl _, ?_⟩
  rcases htk : tokens s with ⟨l, e, a, b⟩
  have hone := one_of htk
  simp only [go_sem, ↓reduceIte, ↓ex_map, toksV, tokC]
  refine ⟨fun he => ⟨fun hl => ?_, fun hl => ?_⟩, fun he => ?_⟩
  · have he' : e = 0 := by simpa using he
    have hl' : l.length = 1 := by simp at hl; omega
    match l, hl' with
    | [t], _ =>
      refine ⟨by decide, t, rfl, fun hs => ?_, fun hs => ⟨by decide, t, rfl, ?_⟩⟩
      · rw [oneV_none (by rw [hone, if_neg]; rintro ⟨_, _, t', h1, h2⟩; cases h1; simp [h2] at hs)]; rfl
      · rw [oneV_some (t := t) (by rw [hone, if_pos ⟨he', rfl, t, rfl, by simpa using hs⟩]; rfl)]; rfl
  · rw [oneV_none (by rw [hone, if_neg]; rintro ⟨_, h, _⟩; simp [h] at hl)]; rfl
  · rw [oneV_none (by rw [hone, if_neg]; rintro ⟨h, _⟩; simp [h] at he)]; rfl
end Go.Proofs.YtoaohapbbnpbeaaGreat.Vm
namespace Go.Proofs.YtoaohapbbnpbeaaGreat.Vm
open Go Lx
set_option linter.unusedSimpArgs false

def dig (n : Nat) : UInt8 := UInt8.ofNat (48 + n)
def dgs (u : Nat) : L := if u < 10 then [dig u] else dgs (u / 10) ++ [dig (u % 10)]
termination_by u
theorem dgs_small {u : Nat} (h : u < 10) : dgs u = [dig u] := by rw [dgs, if_pos h]
theorem dgs_big {u : Nat} (h : ¬ u < 10) : dgs u = dgs (u / 10) ++ [dig (u % 10)] := by rw [dgs, if_neg h]
theorem dig_nat : ∀ d : Fin 10, (dig d.val).toNat = 48 + d.val := by decide +kernel
theorem dig_toNat {n : Nat} (h : n < 10) : (dig n).toNat = 48 + n := dig_nat ⟨n, h⟩
theorem dgs_len : ∀ (m u : Nat), u < 10 ^ m → 0 < m → (dgs u).length ≤ m
  | 0, u, h, h0 => by omega
  | m + 1, u, h, _ => by
    by_cases hu : u < 10
    · rw [dgs_small hu]; simp
    · rw [dgs_big hu, List.length_append, List.length_singleton]
      rw [Nat.pow_succ] at h
      cases m with
      | zero => omega
      | succ m =>
        have := dgs_len (m + 1) (u / 10) (by omega) (by omega)
        omega
theorem dgs_digit : ∀ (m u : Nat), u ≤ m → ∀ c ∈ dgs u, (48 ≤ c.toNat ∧ c.toNat ≤ 57) := by
  intro m
  induction m with
  | zero =>
    intro u h c hc
    rw [dgs_small (by omega)] at hc
    obtain rfl := List.mem_singleton.1 hc
    rw [dig_toNat (by omega)]
    omega
  | succ m ih =>
    intro u h c hc
    by_cases hu : u < 10
    · rw [dgs_small hu] at hc
      obtain rfl := List.mem_singleton.1 hc
      rw [dig_toNat hu]
      omega
    · rw [dgs_big hu] at hc
      rcases List.mem_append.1 hc with hc | hc
      · exact ih (u / 10) (by omega) c hc
      · obtain rfl := List.mem_singleton.1 hc
        rw [dig_toNat (Nat.mod_lt _ (by decide))]
        have := Nat.mod_lt u (show 10 > 0 by decide)
        omega
theorem dgs_ne (u : Nat) : dgs u ≠ [] := by
  by_cases h : u < 10
  · rw [dgs_small h]; simp
  · rw [dgs_big h]; simp
/-- A number whose digits begin with a 0 is 0. -/
theorem dgs_head : ∀ (m u : Nat), u ≤ m → (dgs u).head? = some 48 → u = 0 := by
  intro m
  induction m with
  | zero => intro u h _; omega
  | succ m ih =>
    intro u h hh
    by_cases hu : u < 10
    · rw [dgs_small hu] at hh
      simp only [List.head?_cons, Option.some.injEq] at hh
      have := dig_toNat hu
      rw [hh] at this
      simp at this
      omega
    · rw [dgs_big hu] at hh
      have hne := dgs_ne (u / 10)
      have := ih (u / 10) (by omega) (by
        revert hne hh
        cases dgs (u / 10) with
        | nil => intro _ h; exact absurd rfl h
        | cons a b => intro h _; simpa using h)
      omega
theorem numv_dgs : ∀ (m u : Nat), u ≤ m → numv (dgs u) = u := by
  intro m
  induction m with
  | zero =>
    intro u h
    obtain rfl : u = 0 := by omega
    decide +kernel
  | succ m ih =>
    intro u h
    by_cases hu : u < 10
    · rw [dgs_small hu]
      show 0 * 10 + ((dig u).toNat - 48) = u
      rw [dig_toNat hu]; omega
    · rw [dgs_big hu, numv_app, ih (u / 10) (by omega), dig_toNat (Nat.mod_lt _ (by decide))]
      omega
theorem snoc_ind {P : L → Prop} (h0 : P []) (h1 : ∀ t c, P t → P (t ++ [c])) : ∀ t, P t := by
  intro t
  rw [← List.reverse_reverse t]
  induction t.reverse with
  | nil => exact h0
  | cons c r ih => rw [List.reverse_cons]; exact h1 _ _ ih
theorem dig_of {c : UInt8} (h : (48 ≤ c.toNat ∧ c.toNat ≤ 57)) : dig (c.toNat - 48) = c := by
  apply UInt8.toNat_inj.1
  rw [dig_toNat (by omega)]
  omega
/-- The digits of a row of digits' number are that row, if it has no 0 ahead. -/
theorem dgs_numv : ∀ t : L, (∀ c ∈ t, (48 ≤ c.toNat ∧ c.toNat ≤ 57)) → t ≠ [] → ¬ (t.head? = some 48 ∧ t.length > 1) → dgs (numv t) = t := by
  refine snoc_ind (by simp) ?_
  intro t c ih hd _ hh
  have hc : (48 ≤ c.toNat ∧ c.toNat ≤ 57) := hd c (by simp)
  have hc2 := hc
  cases t with
  | nil =>
    rw [List.nil_append, show numv [c] = c.toNat - 48 by show 0 * 10 + (c.toNat - 48) = _; omega, dgs_small (by omega), dig_of hc]
  | cons d r =>
    have hd0 : ¬ d = 48 := by
      intro e
      exact hh ⟨by rw [e]; rfl, by simp⟩
    have iht := ih (fun x hx => hd x (by simp at hx ⊢; rcases hx with hx | hx <;> simp [hx])) (by simp) (by intro x; exact hd0 (by have := x.1; simpa using this))
    have hpos : 0 < numv (d :: r) := by
      rcases Nat.eq_zero_or_pos (numv (d :: r)) with h0 | h0
      · rw [h0, dgs_small (by decide)] at iht
        injection iht with e1 e2
        exact absurd (e1.symm.trans (by decide +kernel)) hd0
      · exact h0
    rw [numv_app, dgs_big (by omega), show (numv (d :: r) * 10 + (c.toNat - 48)) / 10 = numv (d :: r) by omega, show (numv (d :: r) * 10 + (c.toNat - 48)) % 10 = c.toNat - 48 by omega, iht, dig_of hc]
theorem dgs_numv_iff {t : L} (hd : ∀ c ∈ t, (48 ≤ c.toNat ∧ c.toNat ≤ 57)) (hne : t ≠ []) : dgs (numv t) = t ↔ ¬ (t.head? = some 48 ∧ t.length > 1) := by
  constructor
  · intro h hh
    have h1 : (dgs (numv t)).head? = some 48 := by rw [h]; exact hh.1
    have h2 := dgs_head _ _ (Nat.le_refl _) h1
    rw [h2, dgs_small (by decide)] at h
    have := congrArg List.length h
    simp at this
    omega
  · exact dgs_numv t hd hne


/-- A number's text. -/
def intT (n : Int) : L := if n < 0 then 45 :: dgs n.natAbs else dgs n.natAbs
theorem dg_cut : ∀ d : Fin 10, (48 :: [49, 50, 51, 52, 53, 54, 55, 56, 57].take d.val).drop d.val = [dig d.val] := by decide +kernel
theorem dgs_20 {u : Nat} (h : u < 18446744073709551616) : (dgs u).length ≤ 20 := by
  have : (10 : Nat) ^ 20 = 100000000000000000000 := by decide
  exact dgs_len 20 u (by omega) (by decide)
theorem run_quoW {P : Program} {K : KK} {s : List Fr} {E : En} {H : Heap} {tk : List Nat} {dst : Option Nat} {os : List VOp} {keep : List Nat} {k : IntKind} {a b : Int} : runInt P .quo k a b tk dst os keep s E H K = (b ≠ 0 ∧ runOps P os keep s ((stripEn tk E).setO dst (.int k (k.wrap (a.tdiv b)))) H K) := by
  rw [run_quo]; simp
theorem run_remW {P : Program} {K : KK} {s : List Fr} {E : En} {H : Heap} {tk : List Nat} {dst : Option Nat} {os : List VOp} {keep : List Nat} {k : IntKind} {a b : Int} : runInt P .rem k a b tk dst os keep s E H K = (b ≠ 0 ∧ k.wrap (a.tmod b) = a.tmod b ∧ runOps P os keep s ((stripEn tk E).setO dst (.int k (a.tmod b))) H K) := by
  rw [run_rem]
  apply propext
  constructor
  · rintro ⟨h, z, h1, h2, k⟩; subst h2; exact ⟨h, h1.symm, k⟩
  · rintro ⟨h, h1, k⟩; exact ⟨h, _, h1.symm, rfl, k⟩
theorem digits_P : ∀ (m u : Nat), u ≤ m → u < 18446744073709551616 → Pu 225 [.int .u64 u] (.str (dgs u)) := by
  intro m
  induction m using Nat.strongRecOn with | _ m ih =>
  intro u hm hu
  refine ⟨?_, rfl⟩
  refine T.of0 mix c_r01_Digits rfl ?_
  unfold v_r01_Digits
  have hw : IntKind.u64.wrap ((u : Int) + 1) = ((u + 1 : Nat) : Int) ∨ 10 ≤ u := by
    by_cases h : u < 10
    · left; rw [wrapU64 (by omega) (by omega)]; omega
    · right; omega
  simp only [go_sem, ↓reduceIte, ↓run_addW, ↓run_sliceStr, ↓run_quoW, ↓run_remW]
  refine ⟨fun h => ?_, fun h => ?_⟩
  · have hw : IntKind.u64.wrap ((u : Int) + 1) = ((u + 1 : Nat) : Int) := by rw [wrapU64 (by omega) (by omega)]; omega
    rw [hw]
    have hdg : u < 10 := by omega
    have hc := dg_cut ⟨u, hdg⟩
    simp only at hc
    refine ⟨by constructor <;> omega, ?_⟩
    rw [Int.toNat_natCast]
    show V.str (List.drop u (48 :: List.take u [49, 50, 51, 52, 53, 54, 55, 56, 57])) = _
    rw [hc, dgs_small hdg]
  · have ed : Int.tdiv (u : Int) 10 = ((u / 10 : Nat) : Int) := by rw [Int.tdiv_eq_ediv_of_nonneg (by omega)]; omega
    have em : Int.tmod (u : Int) 10 = ((u % 10 : Nat) : Int) := by rw [Int.tmod_eq_emod_of_nonneg (by omega)]; omega
    have hlt := Nat.mod_lt u (show 10 > 0 by decide)
    have hw : IntKind.u64.wrap (((u % 10 : Nat) : Int) + 1) = ((u % 10 + 1 : Nat) : Int) := by rw [wrapU64 (by omega) (by omega)]; omega
    have hw2 : IntKind.u64.wrap ((u / 10 : Nat) : Int) = ((u / 10 : Nat) : Int) := wrapU64 (by omega) (by omega)
    have hT := ih (m - 1) (by omega) (u / 10) (by omega) (by omega)
    rw [ed, hw2]
    refine ⟨by decide, _, _, hT.at rfl _, ?_⟩
    have h20 := dgs_20 (u := u / 10) (by omega)
    simp only [go_sem, ↓reduceIte, ↓run_addW, ↓run_sliceStr, ↓run_quoW, ↓run_remW, em, hw, Int.toNat_natCast]
    have hc := dg_cut ⟨u % 10, hlt⟩
    simp only at hc
    rw [hc]
    have hw3 : IntKind.u64.wrap ((u % 10 : Nat) : Int) = ((u % 10 : Nat) : Int) := wrapU64 (by omega) (by omega)
    refine ⟨by decide, hw3, by decide, hw3, by constructor <;> omega, by simp; omega, ?_⟩
    rw [← dgs_big (by omega)]
def I64 (n : Int) : Prop := -9223372036854775808 ≤ n ∧ n < 9223372036854775808
theorem size_P {n : Int} (h : I64 n) : Pu 34 [.int .i64 n] (.int .u64 n.natAbs) := by
  obtain ⟨h1, h2⟩ := h
  refine ⟨?_, rfl⟩
  refine T.of0 mix c_r01_Size rfl ?_
  unfold v_r01_Size
  simp only [go_sem, ↓reduceIte, ↓run_convW, ↓run_subW]
  refine ⟨fun h => ?_, fun h => ?_⟩
  · congr 1
    simp only [IntKind.wrap, IntKind.bits, IntKind.signed]
    simp
    omega
  · congr 1
    rw [wrapU64 (by omega) (by omega)]; omega
theorem text_P {n : Int} (h : I64 n) : Pu 210 [.int .i64 n] (.str (intT n)) := by
  have hS := size_P h
  obtain ⟨h1, h2⟩ := h
  have hD := digits_P n.natAbs n.natAbs (Nat.le_refl _) (by omega)
  refine ⟨?_, rfl⟩
  refine T.of0 mix c_r01_Text rfl ?_
  unfold v_r01_Text intT
  simp only [go_sem, ↓reduceIte, ↓run_convW, ↓run_subW]
  refine ⟨fun h => ⟨_, _, hS.at rfl _, ?_⟩, fun h => ⟨_, _, hS.at rfl _, ?_⟩⟩
  · simp only [go_sem, ↓reduceIte]
    refine ⟨_, _, hD.at rfl _, ?_⟩
    have := dgs_20 (u := n.natAbs) (by omega)
    simp only [go_sem, ↓reduceIte]
    rw [if_pos h]
    exact ⟨by omega, rfl⟩
  · refine ⟨_, _, hD.at rfl _, ?_⟩
    simp only [go_sem, ↓reduceIte, strip, strip0]
    rw [if_neg (by omega)]
theorem signed_P {u : Nat} (h : u < 18446744073709551616) : Pu 211 [.int .u64 u, .bool false] (.int .i64 (IntKind.i64.wrap u)) := by
  refine ⟨?_, rfl⟩
  refine T.of0 mix c_r01_signed rfl ?_
  unfold v_r01_signed
  simp only [go_sem, ↓reduceIte, ↓run_convW, ↓run_subW]
/-- What plain answers of digits. -/
def plainS (x : L) : V := if x = [] ∨ x.length > 19 then .tup [.int .u64 0, .bool false] else .tup [.int .u64 (numv x), .bool true]
theorem plain_P {x : L} (hd : digs x) : Pu 209 [.str x] (plainS x) := by
  refine ⟨?_, rfl⟩
  refine T.of0 mix c_r01_plain rfl ?_
  unfold v_r01_plain plainS
  simp only [go_sem, ↓reduceIte, ↓run_mulX, ↓run_convW, ↓run_addW, ↓run_subW]
  generalize hL : WP Tryz.prog (VCode.loop _) _ _ _ = L
  have hl : x ≠ [] → x.length ≤ 19 → L := by
    intro hne h19
    rw [← hL]
    refine WP.range (n := x.length) (fun j E G => G = [] ∧ ∃ ex, E = ⟨(0, .str x) :: (4, .int .u64 (numv (x.take j))) :: (5, .int .i64 j) :: ex, .u⟩) ⟨rfl, _, rfl⟩ ?_
    rintro j E G hj ⟨rfl, ex, rfl⟩
    have hw := inc64 (i := j) (by omega)
    simp only [go_sem, ↓reduceIte, ↓ex_map, ↓run_mulX, ↓run_convW, ↓run_negW, ↓run_addW, ↓run_subW, hw, lt_len, Int.toNat_natCast]
    refine ⟨fun hlt => ?_, fun hge => ?_⟩
    · obtain ⟨b, hb⟩ := get_lt (src := x) (i := j) hlt
      have hdb := hd b (List.mem_of_getElem? hb)
      have ht : x.take (j + 1) = x.take j ++ [b] := by rw [List.take_add_one, hb]; rfl
      have hz := numv_lt j (x.take j) (by simp; omega) fun c hc => hd c (List.mem_of_mem_take hc)
      have hz2 : (10 : Nat) ^ j ≤ 10 ^ 18 := Nat.pow_le_pow_right (by decide) (by omega)
      have e1 : IntKind.u8.wrap ((b.toNat : Int) - 48) = ((b.toNat - 48 : Nat) : Int) := by
        rw [wrapU8 (by omega) (by omega)]; omega
      have e2 : (10 : Nat) ^ 18 = 1000000000000000000 := by decide
      have e3 : IntKind.u64.wrap (((numv (x.take j) : Nat) : Int) * 10) = ((numv (x.take j) : Nat) : Int) * 10 := wrapU64 (by omega) (by omega)
      have e4 : IntKind.u64.wrap ((b.toNat - 48 : Nat) : Int) = ((b.toNat - 48 : Nat) : Int) := wrapU64 (by omega) (by omega)
      have e5 : IntKind.u64.wrap (((numv (x.take j) : Nat) : Int) * 10 + ((b.toNat - 48 : Nat) : Int)) = ((numv (x.take j) * 10 + (b.toNat - 48) : Nat) : Int) := by
        rw [wrapU64 (by omega) (by omega)]; omega
      refine ⟨b, hb, fun _ => ⟨b, hb, fun h => by omega, fun _ => ⟨b, hb, hlt, [], ?_⟩⟩, fun h => by omega⟩
      rw [ht, numv_app, e1, e3, e4, e5]
    · have ht : x.take j = x := List.take_of_length_le (by omega)
      rw [ht, if_neg (by rintro (h | h); exact hne h; omega)]
  clear hL
  refine ⟨fun h => ⟨fun h2 => by rw [if_pos (.inr (by omega))], fun h2 => hl (fun e => by simp [e] at h) (by omega)⟩, fun h => by rw [if_pos (.inl (by simpa using h))]⟩
/-- What a text of digits comes to. -/
theorem rparse_P {x : L} (hd : digs x) (hx : x ≠ []) : Pu 179 [.str x] (.tup [.int .i64 (parS x).1, .int .i64 (parS x).2]) := by
  refine ⟨?_, rfl⟩
  refine T.of0 mix c_r01_Parse rfl ?_
  have hP := plain_P hd
  unfold v_r01_Parse
  obtain ⟨c, r, rfl⟩ := List.exists_cons_of_ne_nil hx
  have hc := hd c (by simp)
  have e45 : ((c.toNat : Int) == 45) = false := by simp; omega
  have hgt : (((c :: r).length : Int) > 0) = True := by simp
  have hlt := numv_lt _ _ rfl hd
  have hpos : 0 < (c :: r).length := by simp
  have hx0 := hx
  have h0 : (c :: r)[0]? = some c := rfl
  clear hx
  generalize c :: r = x at *
  have fin : ∀ n : Int, V.tup [.int .i64 n, .int .i64 0] = V.tup [.int .i64 (parS x).1, .int .i64 (parS x).2] ↔ (n, (0 : Int)) = parS x := by
    intro n; constructor
    · intro h; simp at h; exact Prod.ext h.1 h.2
    · intro h; rw [← h]
  have fin11 : V.tup [.int .i64 0, .int .i64 11] = V.tup [.int .i64 (parS x).1, .int .i64 (parS x).2] ↔ parS x = (0, 11) := by
    constructor
    · intro h; simp at h; exact Prod.ext h.1.symm h.2.symm
    · intro h; rw [h]
  simp only [go_sem, ↓reduceIte, ↓run_mulX, ↓run_convW, ↓run_addW, ↓run_subW, Int.toNat_zero, hgt, h0, e45, Int.le_refl]
  refine ⟨_, _, hP.at rfl _, ?_⟩
  unfold plainS
  by_cases h19 : x.length > 19
  · rw [if_pos (.inr h19)]
    simp only [go_sem, ↓reduceIte, fin11]
    unfold parS; rw [if_pos (.inr (.inl h19))]
  · rw [if_neg (by rintro (h | h); exact hx0 h; exact h19 h)]
    have h19' : x.length ≤ 19 := by omega
    have hu : numv x < 10000000000000000000 := by
      have h1 : (10 : Nat) ^ x.length ≤ 10 ^ 19 := Nat.pow_le_pow_right (by decide) h19'
      have h2 : (10 : Nat) ^ 19 = 10000000000000000000 := by decide
      omega
    have hS := signed_P (u := numv x) (by omega)
    have hiff := dgs_numv_iff hd hx0
    have hrec : parS x = if (x.head? = some 48 ∧ x.length > 1) ∨ numv x > 9223372036854775807 then (0, 11) else ((numv x : Int), 0) := by
      unfold parS
      simp only [hx0, false_or, show ¬ x.length > 19 from h19]
    have hX : parS x = if dgs (numv x) = x ∧ numv x ≤ 9223372036854775807 then ((numv x : Int), 0) else (0, 11) := by
      rw [hrec]
      have hiff' : (dgs (numv x) = x ∧ numv x ≤ 9223372036854775807) ↔ (¬(x.head? = some 48 ∧ x.length > 1) ∧ numv x ≤ 9223372036854775807) := by rw [hiff]
      simp only [hiff']
      by_cases a : (x.head? = some 48 ∧ x.length > 1)
      · simp [a]
      · by_cases b : numv x > 9223372036854775807
        · rw [if_pos (.inr b), if_neg (by omega)]
        · rw [if_neg (by rintro (h | h); exact a h; exact b h), if_pos ⟨a, by omega⟩]
    clear hrec hiff hlt
    generalize numv x = u at *
    simp only [go_sem, ↓reduceIte, fin11]
    refine ⟨fun hle => ⟨_, _, hS.at rfl _, ?_⟩, fun hgt => by rw [hX, if_neg (by omega)]⟩
    simp only [go_sem, ↓reduceIte]
    by_cases hedge : u = 9223372036854775808
    · subst hedge
      have hw : IntKind.i64.wrap ((9223372036854775808 : Nat) : Int) = -9223372036854775808 := by decide
      have hT := text_P (n := -9223372036854775808) ⟨by decide, by decide⟩
      rw [hw]
      refine ⟨_, _, hT.at rfl _, ?_⟩
      simp only [go_sem, ↓reduceIte, fin11]
      refine ⟨fun _ => by rw [hX, if_neg (by omega)], fun h => ?_⟩
      exfalso
      simp at h
      have : intT (-9223372036854775808) = 45 :: dgs 9223372036854775808 := by unfold intT; rw [if_pos (by decide)]; rfl
      rw [this] at h
      rw [← h] at hd
      have := hd 45 (by simp)
      simp at this
    · have hw : IntKind.i64.wrap ((u : Nat) : Int) = u := by rw [wrap64 (by omega) (by omega)]
      have hT := text_P (n := (u : Int)) ⟨by omega, by omega⟩
      rw [hw] at hS ⊢
      have he : intT (u : Int) = dgs u := by unfold intT; rw [if_neg (by omega)]; simp
      rw [he] at hT
      refine ⟨_, _, hT.at rfl _, ?_⟩
      simp only [go_sem, ↓reduceIte, fin11]
      refine ⟨fun h => by rw [hX, if_neg (by rintro ⟨h1, _⟩; simp [h1] at h)], fun h => ⟨_, _, hS.at rfl _, ?_⟩⟩
      have he : dgs u = x := by simpa using h
      simp only [go_sem, ↓reduceIte, fin]
      rw [hX, if_pos ⟨he, by omega⟩]
theorem rnumber_P {x : L} (hd : digs x) (hx : x ≠ []) : Pu 129 [.str x] (.tup [.int .i64 (valS x).1, .int .i64 (valS x).2]) := by
  refine ⟨?_, rfl⟩
  refine T.of0 mix c_r02_number rfl ?_
  have hP := rparse_P hd hx
  unfold v_r02_number
  simp only [go_sem, ↓reduceIte]
  refine ⟨fun h => ?_, fun h => ⟨_, _, hP.at rfl _, ?_⟩⟩
  · have : x = leastL := by simpa [leastL] using h
    subst this; rfl
  · have hne : ¬ x = leastL := by intro e; subst e; exact absurd h (by decide)
    have : valS x = parS x := by unfold valS parS; rw [if_neg hne]; simp only [hx, false_or]
    rw [this]
    simp only [go_sem, ↓reduceIte]
end Go.Proofs.YtoaohapbbnpbeaaGreat.Vm
namespace Go.Proofs.YtoaohapbbnpbeaaGreat.Vm
open Go Lx
set_option linter.unusedSimpArgs false

theorem u8_beq {a b : UInt8} : (((a.toNat : Nat) : Int) == ((b.toNat : Nat) : Int)) = (a == b) := by
  rw [Bool.eq_iff_iff, beq_iff_eq, beq_iff_eq]
  constructor
  · intro h; exact UInt8.toNat_inj.1 (by omega)
  · rintro rfl; rfl
theorem in_P (c : UInt8) (x : L) (hx : x.length < 4611686018427387904) : Pu 171 [.int .u8 c.toNat, .str x] (.bool (x.contains c)) := by
  refine ⟨?_, rfl⟩
  refine T.of0 mix c_r02_In rfl ?_
  unfold v_r02_In
  simp only [go_sem, ↓reduceIte]
  refine WP.range (n := x.length) (fun j E G => G = [] ∧ c ∉ x.take j ∧ ∃ ex, E = ⟨(0, .int .u8 c.toNat) :: (1, .str x) :: (5, .int .i64 j) :: ex, .u⟩) ⟨rfl, by simp, _, rfl⟩ ?_
  rintro j E G hj ⟨rfl, hn, ex, rfl⟩
  have hw := inc64 (i := j) (by omega)
  simp only [go_sem, ↓reduceIte, ↓ex_map, ↓run_addW, hw, lt_len, Int.toNat_natCast, u8_beq]
  refine ⟨fun hlt => ?_, fun hge => ?_⟩
  · obtain ⟨b, hb⟩ := get_lt (src := x) (i := j) hlt
    refine ⟨b, hb, fun h => ?_, fun h => ⟨hlt, ?_, [], rfl⟩⟩
    · obtain rfl : b = c := by simpa using h
      have : b ∈ x := List.mem_of_getElem? hb
      simp [this]
    · rw [List.take_add_one, hb]
      simp only [Option.toList_some, List.mem_append, List.mem_singleton, not_or]
      exact ⟨hn, fun e => by simp [e] at h⟩
  · rw [List.take_of_length_le (by omega)] at hn
    simp [hn]
theorem cls_1 : ∀ n : Nat, n < 256 → ((97 ≤ n ∧ n ≤ 122 ∨ n = 95) ↔ cls n = 1) := by decide +kernel
theorem cls_2 : ∀ n : Nat, n < 256 → ((65 ≤ n ∧ n ≤ 90) ↔ cls n = 2) := by decide +kernel
theorem cls_3 : ∀ n : Nat, n < 256 → ((48 ≤ n ∧ n ≤ 57) ↔ cls n = 3) := by decide +kernel
def markL : L := [40, 41, 123, 125, 59, 92]
def signL : L := [33, 35, 36, 37, 38, 42, 43, 46, 47, 58, 60, 61, 62, 63, 64, 94, 124, 126, 45]
theorem cls_4 : ∀ n : Fin 256, (markL.contains (UInt8.ofNat n.val) = true ↔ cls n.val = 4) := by decide +kernel
theorem cls_5 : ∀ n : Fin 256, (signL.contains (UInt8.ofNat n.val) = true ↔ cls n.val = 5) := by decide +kernel
theorem cls_le : ∀ n : Nat, n < 256 → cls n = 0 ∨ cls n = 1 ∨ cls n = 2 ∨ cls n = 3 ∨ cls n = 4 ∨ cls n = 5 := by decide +kernel
theorem mark_iff (c : UInt8) : markL.contains c = (cls c.toNat == 4) := by
  rw [Bool.eq_iff_iff, beq_iff_eq]
  have := cls_4 ⟨c.toNat, c.toNat_lt⟩
  simpa using this
theorem sign_iff (c : UInt8) : signL.contains c = (cls c.toNat == 5) := by
  rw [Bool.eq_iff_iff, beq_iff_eq]
  have := cls_5 ⟨c.toNat, c.toNat_lt⟩
  simpa using this
theorem small_P (c : UInt8) : Pu 172 [.int .u8 c.toNat] (.bool (cls c.toNat == 1)) := by
  refine ⟨?_, rfl⟩
  refine T.of0 mix c_r02_Small rfl ?_
  unfold v_r02_Small
  have h := cls_1 _ c.toNat_lt
  simp only [go_sem, ↓reduceIte]
  generalize hc : (c.toNat : Int) = n at *
  cases hb : cls c.toNat == 1 with
  | true =>
    have := h.2 (by simpa using hb)
    refine ⟨fun h1 => ⟨fun h2 => ?_, fun h2 => ?_⟩, fun h1 => ?_⟩ <;> simp <;> omega
  | false =>
    have := mt h.1 (by simpa using hb)
    refine ⟨fun h1 => ⟨fun h2 => ?_, fun h2 => ?_⟩, fun h1 => ?_⟩ <;> simp <;> omega
theorem large_P (c : UInt8) : Pu 173 [.int .u8 c.toNat] (.bool (cls c.toNat == 2)) := by
  refine ⟨?_, rfl⟩
  refine T.of0 mix c_r02_Large rfl ?_
  unfold v_r02_Large
  have h := cls_2 _ c.toNat_lt
  simp only [go_sem, ↓reduceIte]
  cases hb : cls c.toNat == 2 with
  | true =>
    have := h.2 (by simpa using hb)
    refine ⟨fun h2 => ?_, fun h2 => ?_⟩ <;> simp <;> omega
  | false =>
    have := mt h.1 (by simpa using hb)
    refine ⟨fun h2 => ?_, fun h2 => ?_⟩ <;> simp <;> omega
theorem digit_P (c : UInt8) : Pu 175 [.int .u8 c.toNat] (.bool (cls c.toNat == 3)) := by
  refine ⟨?_, rfl⟩
  refine T.of0 mix c_r02_Digit rfl ?_
  unfold v_r02_Digit
  have h := cls_3 _ c.toNat_lt
  simp only [go_sem, ↓reduceIte]
  cases hb : cls c.toNat == 3 with
  | true =>
    have := h.2 (by simpa using hb)
    refine ⟨fun h2 => ?_, fun h2 => ?_⟩ <;> simp <;> omega
  | false =>
    have := mt h.1 (by simpa using hb)
    refine ⟨fun h2 => ?_, fun h2 => ?_⟩ <;> simp <;> omega
theorem sign_P (c : UInt8) : Pu 176 [.int .u8 c.toNat] (.bool (cls c.toNat == 5)) := by
  refine ⟨?_, rfl⟩
  refine T.of0 mix c_r02_Sign rfl ?_
  unfold v_r02_Sign
  have h := in_P c signL (by decide)
  rw [sign_iff] at h
  simp only [go_sem, ↓reduceIte]
  refine ⟨_, _, h.at rfl _, ?_⟩
  simp only [go_sem, ↓reduceIte]
theorem inner_P (c : UInt8) (k : Int) (hk : k = 1 ∨ k = 2) : Pu 174 [.int .u8 c.toNat] (.bool (Lx.goes k c.toNat)) := by
  refine ⟨?_, rfl⟩
  refine T.of0 mix c_r02_Inner rfl ?_
  unfold v_r02_Inner
  have h1 := small_P c
  have h2 := large_P c
  have h3 := digit_P c
  have e : Lx.goes k c.toNat = (cls c.toNat == 1 || cls c.toNat == 2 || cls c.toNat == 3 || c.toNat == 39) := by unfold Lx.goes; rw [if_pos hk]
  have h39 : (((c.toNat : Nat) : Int) == 39) = (c.toNat == 39) := by rw [Bool.eq_iff_iff]; simp; omega
  rw [e]
  simp only [go_sem, ↓reduceIte, h39]
  generalize (c.toNat == 39) = z at *
  generalize (cls c.toNat == 1) = z1 at *
  generalize (cls c.toNat == 2) = z2 at *
  generalize (cls c.toNat == 3) = z3 at *
  refine ⟨_, _, h1.at rfl _, ?_⟩
  simp only [go_sem, ↓reduceIte]
  cases z1 <;> simp only [go_sem, ↓reduceIte]
  refine ⟨_, _, h2.at rfl _, ?_⟩
  cases z2 <;> simp only [go_sem, ↓reduceIte]
  refine ⟨_, _, h3.at rfl _, ?_⟩
  cases z3 <;> simp only [go_sem, ↓reduceIte, h39, Bool.false_or]
theorem has_P (l : List L) (x : L) (hl : l.length < 4611686018427387904) : Pu 177 [.sl false 1 (l.map stC), .str x] (.bool (l.contains x)) := by
  refine ⟨?_, rfl⟩
  refine T.of0 mix c_r02_Has rfl ?_
  unfold v_r02_Has
  simp only [go_sem, ↓reduceIte]
  refine WP.range (n := l.length) (fun j E G => G = [] ∧ x ∉ l.take j ∧ ∃ ex, E = ⟨(0, .sl false 1 (l.map stC)) :: (1, .str x) :: (5, .int .i64 j) :: ex, .u⟩) ⟨rfl, by simp, _, rfl⟩ ?_
  rintro j E G hj ⟨rfl, hn, ex, rfl⟩
  have hw := inc64 (i := j) (by omega)
  simp only [go_sem, ↓reduceIte, ↓ex_map, ↓run_addW, hw, lt_len, Int.toNat_natCast, stC_eq]
  refine ⟨fun hlt => ?_, fun hge => ?_⟩
  · obtain ⟨b, hb, hm⟩ := getL hlt
    refine ⟨b, hb, fun h => ?_, fun h => ⟨hlt, ?_, [], rfl⟩⟩
    · obtain rfl : b = x := by simpa using h
      simp [hm]
    · rw [List.take_add_one, hb]
      simp only [Option.toList_some, List.mem_append, List.mem_singleton, not_or]
      exact ⟨hn, fun e => by simp [e] at h⟩
  · rw [List.take_of_length_le (by omega)] at hn
    simp [hn]
theorem words_T : Pu 178 [] (.sl true 1 (words.map stC)) := ⟨callN_sound mix tab_ok 100 (by kernel_rfl), rfl⟩
/-- A token's kind, by its first byte's class. -/
theorem kindOf_P (c : UInt8) (r : L) (hr : r.length < 4611686018427387904) (hc : cls c.toNat ≠ 0) : Pu 128 [.str (c :: r)] (.int .i64 (kindS (cls c.toNat) (c :: r))) := by
  refine ⟨?_, rfl⟩
  refine T.of0 mix c_r02_kindOf rfl ?_
  unfold v_r02_kindOf
  have h0 := in_P c markL (by decide)
  rw [mark_iff] at h0
  have h1 := small_P c
  have h2 := large_P c
  have h3 := digit_P c
  have hW := words_T
  have hH := has_P words (c :: r) (by decide)
  have f1 : ((c :: r) == [95]) = true → cls c.toNat = 1 := by intro h; have := eq_of_beq h; cases this; decide
  have f2 : ((c :: r) == [61]) = true → cls c.toNat = 5 := by intro h; have := eq_of_beq h; cases this; decide
  have f3 : ((c :: r) == [124]) = true → cls c.toNat = 5 := by intro h; have := eq_of_beq h; cases this; decide
  have f4 : ((c :: r) == [45, 62]) = true → cls c.toNat = 5 := by intro h; have := eq_of_beq h; cases this; decide
  have f5 : words.contains (c :: r) = true → cls c.toNat = 1 := by
    intro h
    have hm : (c :: r) ∈ words := by simpa using h
    have : ∀ t ∈ words, ∀ d ∈ t.head?, cls d.toNat = 1 := by decide
    exact this _ hm c rfl
  have hk : kindS (cls c.toNat) (c :: r) = if cls c.toNat = 2 then 2 else if cls c.toNat = 3 then 4 else if cls c.toNat = 5 then (if ((c :: r) == [61]) = true ∨ ((c :: r) == [124]) = true ∨ ((c :: r) == [45, 62]) = true then 5 else 3) else if cls c.toNat = 1 then (if ((c :: r) == [95]) = true then 5 else if words.contains (c :: r) = true then 6 else 1) else 5 := by
    unfold kindS isWord
    simp only [beq_iff_eq]
  rw [hk]
  have hle := cls_le _ c.toNat_lt
  simp only [go_sem, ↓reduceIte, Int.toNat_zero, List.getElem?_cons_zero, Int.le_refl]
  refine ⟨_, _, h0.at rfl _, ?_⟩
  clear hk h0
  generalize hw1 : ((c :: r) == [95]) = w1 at f1 ⊢
  generalize hw2 : ((c :: r) == [61]) = w2 at f2 ⊢
  generalize hw3 : ((c :: r) == [124]) = w3 at f3 ⊢
  generalize hw4 : ((c :: r) == [45, 62]) = w4 at f4 ⊢
  generalize words.contains (c :: r) = w5 at *
  generalize cls c.toNat = b at *
  simp only [strip, strip0]
  by_cases hm : b = 4 ∨ w1 = true ∨ w2 = true ∨ w3 = true ∨ w4 = true
  · have h5 : (if b = 2 then (2 : Int) else if b = 3 then 4 else if b = 5 then (if w2 = true ∨ w3 = true ∨ w4 = true then 5 else 3) else if b = 1 then (if w1 = true then 5 else if w5 = true then 6 else 1) else 5) = 5 := by
      rcases hle with rfl | rfl | rfl | rfl | rfl | rfl <;> simp_all
    rw [h5]
    cases hb : b == 4
    · have hm' := hm.resolve_left (by simpa using hb)
      clear hm f1 f2 f3 f4 f5 h5 hle
      cases w1 <;> cases w2 <;> cases w3 <;> cases w4 <;> simp only [go_sem, ↓reduceIte, hw1, hw2, hw3, hw4]
      simp at hm'
    · simp only [go_sem, ↓reduceIte]
  · have g1 : (b == 4) = false := by simp; exact fun e => hm (.inl e)
    have g2 : w1 = false := by cases w1 <;> simp at hm ⊢
    have g3 : w2 = false := by cases w2 <;> simp at hm ⊢
    have g4 : w3 = false := by cases w3 <;> simp at hm ⊢
    have g5 : w4 = false := by cases w4 <;> simp at hm ⊢
    subst g2 g3 g4 g5
    simp only [g1]
    try simp only [go_sem, ↓reduceIte, Int.toNat_zero, List.getElem?_cons_zero, Int.le_refl, hw1, hw2, hw3, hw4]
    refine ⟨_, _, hW.at rfl _, ?_⟩
    try simp only [go_sem, ↓reduceIte, Int.toNat_zero, List.getElem?_cons_zero, Int.le_refl]
    refine ⟨_, _, hH.at rfl _, ?_⟩
    have hb4 : ¬ b = 4 := fun e => hm (.inl e)
    cases w5
    · simp only [go_sem, ↓reduceIte, Int.toNat_zero, List.getElem?_cons_zero, Int.le_refl]
      refine ⟨_, _, h1.at rfl _, ?_⟩
      simp only [go_sem, ↓reduceIte, Int.toNat_zero, List.getElem?_cons_zero, Int.le_refl]
      refine ⟨fun e => ?_, fun e => ⟨_, _, h2.at rfl _, ?_⟩⟩
      · rcases hle with rfl | rfl | rfl | rfl | rfl | rfl <;> simp_all
      · simp only [go_sem, ↓reduceIte, Int.toNat_zero, List.getElem?_cons_zero, Int.le_refl]
        refine ⟨fun e => ?_, fun e => ⟨_, _, h3.at rfl _, ?_⟩⟩
        · rcases hle with rfl | rfl | rfl | rfl | rfl | rfl <;> simp_all
        · simp only [go_sem, ↓reduceIte, Int.toNat_zero, List.getElem?_cons_zero, Int.le_refl]
          rcases hle with rfl | rfl | rfl | rfl | rfl | rfl <;> simp_all
    · simp only [go_sem, ↓reduceIte, Int.toNat_zero, List.getElem?_cons_zero, Int.le_refl]
      rcases hle with rfl | rfl | rfl | rfl | rfl | rfl <;> simp_all
theorem runL_cons (k : Int) (b : UInt8) (l : L) : runL k (b :: l) = if Lx.goes k b.toNat = true then b :: runL k l else [] := by
  unfold runL; rw [List.takeWhile_cons]
/-- How many bytes the token has that begins a text. -/
theorem length_P (c : UInt8) (r : L) (hr : r.length < 4611686018427387900) : Pu 125 [.str (c :: r)] (.int .i64 (tokLen (c :: r))) := by
  refine ⟨?_, rfl⟩
  refine T.of0 mix c_r02_length rfl ?_
  unfold v_r02_length
  have h0 := in_P c markL (by decide)
  rw [mark_iff] at h0
  have h1 := small_P c
  have h2 := large_P c
  have h3 := digit_P c
  have h4 := sign_P c
  have hlen : tokLen (c :: r) = if cls c.toNat = 0 then 0 else (runL (cls c.toNat) r).length + 1 := rfl
  have hle := cls_le _ c.toNat_lt
  try simp only [go_sem, ↓reduceIte, Int.toNat_zero, List.getElem?_cons_zero, Int.le_refl]
  refine ⟨_, _, h0.at rfl _, ?_⟩
  try simp only [go_sem, ↓reduceIte, Int.toNat_zero, List.getElem?_cons_zero, Int.le_refl]
  refine ⟨fun e => ?_, fun e => ⟨_, _, h1.at rfl _, ?_⟩⟩
  · have : cls c.toNat = 4 := by simpa using e
    rw [hlen, this]
    have : runL 4 r = [] := by cases r with | nil => rfl | cons b l => rw [runL_cons]; rfl
    rw [this]; rfl
  have key1 : ∀ {X : Prop}, (cls c.toNat = 1 ∨ cls c.toNat = 2 → X) → (cls c.toNat = 1 ∨ cls c.toNat = 2 → X) := fun h => h
  cases hb1 : cls c.toNat == 1
  · rw [hb1] at h1
    try simp only [go_sem, ↓reduceIte, Int.toNat_zero, List.getElem?_cons_zero, Int.le_refl]
    refine ⟨_, _, h2.at rfl _, ?_⟩
    try simp only [go_sem, ↓reduceIte, Int.toNat_zero, List.getElem?_cons_zero, Int.le_refl]
    have hn1 : ¬ cls c.toNat = 1 := by simpa using hb1
    refine ⟨fun e2 => ?_, fun e2 => ⟨_, _, h3.at rfl _, ?_⟩⟩
    · have hcl : cls c.toNat = 1 ∨ cls c.toNat = 2 := .inr (by simpa using e2)
      have hrun : (runL (cls c.toNat) r).length + 1 = tokLen (c :: r) := by rw [hlen, if_neg (by omega)]
      refine WP.range (n := r.length) (fun j E G => G = [] ∧ (runL (cls c.toNat) r).length = j + (runL (cls c.toNat) (r.drop j)).length ∧ ∃ ex, E = ⟨(0, .str (c :: r)) :: (3, .int .i64 ((j + 1 : Nat) : Int)) :: ex, .u⟩) ⟨rfl, by simp, _, rfl⟩ ?_
      rintro j E G hj ⟨rfl, hn, ex, rfl⟩
      have hw := inc64 (i := j + 1) (by omega)
      try simp only [go_sem, ↓reduceIte, ↓ex_map, ↓run_addW, hw, lt_len, Int.toNat_natCast, List.getElem?_cons_succ]
      refine ⟨fun hlt => ?_, fun hge => ?_⟩
      · have hjr : j < r.length := by omega
        obtain ⟨b, hb⟩ := get_lt (src := r) (i := j) hjr
        have hT := inner_P b (cls c.toNat) hcl
        rw [drop_get hb, runL_cons] at hn
        refine ⟨b, hb, _, _, hT.at rfl _, ?_⟩
        try simp only [go_sem, ↓reduceIte, ↓ex_map, ↓run_addW, hw, lt_len, Int.toNat_natCast]
        refine ⟨fun h => ⟨hjr, ?_, [], rfl⟩, fun h => ?_⟩
        · rw [if_pos (by simpa using h)] at hn; simp at hn; omega
        · rw [if_neg (by simp [h])] at hn; simp at hn
          rw [← hrun]; congr 2; omega
      · try simp only [List.length_cons] at hge
        rw [List.drop_of_length_le (by omega)] at hn
        have : (runL (cls c.toNat) []).length = 0 := rfl
        rw [← hrun]; congr 2; omega

    try simp only [go_sem, ↓reduceIte, Int.toNat_zero, List.getElem?_cons_zero, Int.le_refl]
    have hn2 : ¬ cls c.toNat = 2 := by simpa using e2
    refine ⟨fun e3 => ?_, fun e3 => ⟨_, _, h4.at rfl _, ?_⟩⟩
    · have hcl : cls c.toNat = 3 := by simpa using e3
      have hrun : (runL 3 r).length + 1 = tokLen (c :: r) := by rw [hlen, if_neg (by omega)]; rw [hcl]
      refine WP.range (n := r.length) (fun j E G => G = [] ∧ (runL 3 r).length = j + (runL 3 (r.drop j)).length ∧ ∃ ex, E = ⟨(0, .str (c :: r)) :: (3, .int .i64 ((j + 1 : Nat) : Int)) :: ex, .u⟩) ⟨rfl, by simp, _, rfl⟩ ?_
      rintro j E G hj ⟨rfl, hn, ex, rfl⟩
      have hw := inc64 (i := j + 1) (by omega)
      try simp only [go_sem, ↓reduceIte, ↓ex_map, ↓run_addW, hw, lt_len, Int.toNat_natCast, List.getElem?_cons_succ]
      refine ⟨fun hlt => ?_, fun hge => ?_⟩
      · have hjr : j < r.length := by omega
        obtain ⟨b, hb⟩ := get_lt (src := r) (i := j) hjr
        have hT := digit_P b
        rw [drop_get hb, runL_cons] at hn
        refine ⟨b, hb, _, _, hT.at rfl _, ?_⟩
        try simp only [go_sem, ↓reduceIte, ↓ex_map, ↓run_addW, hw, lt_len, Int.toNat_natCast]
        refine ⟨fun h => ⟨hjr, ?_, [], rfl⟩, fun h => ?_⟩
        · rw [if_pos (by simpa [Lx.goes] using h)] at hn; simp at hn; omega
        · rw [if_neg (by simp [Lx.goes] at h ⊢; exact h)] at hn; simp at hn
          rw [← hrun]; congr 2; omega
      · try simp only [List.length_cons] at hge
        rw [List.drop_of_length_le (by omega)] at hn
        have : (runL 3 []).length = 0 := rfl
        rw [← hrun]; congr 2; omega

    try simp only [go_sem, ↓reduceIte, Int.toNat_zero, List.getElem?_cons_zero, Int.le_refl]
    have hn3 : ¬ cls c.toNat = 3 := by simpa using e3
    have hn4 : ¬ cls c.toNat = 4 := by simpa using e
    refine ⟨fun e5 => ?_, fun e5 => ?_⟩
    · have hcl : cls c.toNat = 5 := by simpa using e5
      have hrun : (runL 5 r).length + 1 = tokLen (c :: r) := by rw [hlen, if_neg (by omega)]; rw [hcl]
      refine WP.range (n := r.length) (fun j E G => G = [] ∧ (runL 5 r).length = j + (runL 5 (r.drop j)).length ∧ ∃ ex, E = ⟨(0, .str (c :: r)) :: (3, .int .i64 ((j + 1 : Nat) : Int)) :: ex, .u⟩) ⟨rfl, by simp, _, rfl⟩ ?_
      rintro j E G hj ⟨rfl, hn, ex, rfl⟩
      have hw := inc64 (i := j + 1) (by omega)
      try simp only [go_sem, ↓reduceIte, ↓ex_map, ↓run_addW, hw, lt_len, Int.toNat_natCast, List.getElem?_cons_succ]
      refine ⟨fun hlt => ?_, fun hge => ?_⟩
      · have hjr : j < r.length := by omega
        obtain ⟨b, hb⟩ := get_lt (src := r) (i := j) hjr
        have hT := sign_P b
        rw [drop_get hb, runL_cons] at hn
        refine ⟨b, hb, _, _, hT.at rfl _, ?_⟩
        try simp only [go_sem, ↓reduceIte, ↓ex_map, ↓run_addW, hw, lt_len, Int.toNat_natCast]
        refine ⟨fun h => ⟨hjr, ?_, [], rfl⟩, fun h => ?_⟩
        · rw [if_pos (by simpa [Lx.goes] using h)] at hn; simp at hn; omega
        · rw [if_neg (by simp [Lx.goes] at h ⊢; exact h)] at hn; simp at hn
          rw [← hrun]; congr 2; omega
      · try simp only [List.length_cons] at hge
        rw [List.drop_of_length_le (by omega)] at hn
        have : (runL 5 []).length = 0 := rfl
        rw [← hrun]; congr 2; omega

    · have hn5 : ¬ cls c.toNat = 5 := by simpa using e5
      rw [hlen, if_pos (by omega)]; rfl
  · have hcl : cls c.toNat = 1 ∨ cls c.toNat = 2 := .inl (by simpa using hb1)
    try simp only [go_sem, ↓reduceIte, Int.toNat_zero, List.getElem?_cons_zero, Int.le_refl]
    have hrun : (runL (cls c.toNat) r).length + 1 = tokLen (c :: r) := by rw [hlen, if_neg (by omega)]
    refine WP.range (n := r.length) (fun j E G => G = [] ∧ (runL (cls c.toNat) r).length = j + (runL (cls c.toNat) (r.drop j)).length ∧ ∃ ex, E = ⟨(0, .str (c :: r)) :: (3, .int .i64 ((j + 1 : Nat) : Int)) :: ex, .u⟩) ⟨rfl, by simp, _, rfl⟩ ?_
    rintro j E G hj ⟨rfl, hn, ex, rfl⟩
    have hw := inc64 (i := j + 1) (by omega)
    try simp only [go_sem, ↓reduceIte, ↓ex_map, ↓run_addW, hw, lt_len, Int.toNat_natCast, List.getElem?_cons_succ]
    refine ⟨fun hlt => ?_, fun hge => ?_⟩
    · have hjr : j < r.length := by omega
      obtain ⟨b, hb⟩ := get_lt (src := r) (i := j) hjr
      have hT := inner_P b (cls c.toNat) hcl
      rw [drop_get hb, runL_cons] at hn
      refine ⟨b, hb, _, _, hT.at rfl _, ?_⟩
      try simp only [go_sem, ↓reduceIte, ↓ex_map, ↓run_addW, hw, lt_len, Int.toNat_natCast]
      refine ⟨fun h => ⟨hjr, ?_, [], rfl⟩, fun h => ?_⟩
      · rw [if_pos (by simpa using h)] at hn; simp at hn; omega
      · rw [if_neg (by simp [h])] at hn; simp at hn
        rw [← hrun]; congr 2; omega
    · try simp only [List.length_cons] at hge
      rw [List.drop_of_length_le (by omega)] at hn
      have : (runL (cls c.toNat) []).length = 0 := rfl
      rw [← hrun]; congr 2; omega

end Go.Proofs.YtoaohapbbnpbeaaGreat.Vm
namespace Go.Proofs.YtoaohapbbnpbeaaGreat.Vm
open Go Lx
set_option linter.unusedSimpArgs false

theorem eolN_cons (c : UInt8) (r : L) : eolN (c :: r) = if c = 10 then 0 else eolN r + 1 := rfl
theorem blank_P (x : L) (hx : x.length < 4611686018427387900) : Pu 124 [.str x] (.int .i64 (blankN x)) := by
  refine ⟨?_, rfl⟩
  refine T.of0 mix c_r02_blank rfl ?_
  unfold v_r02_blank
  simp only [go_sem, ↓reduceIte]
  refine WP.loop' (fun m E G => G = [] ∧ ∃ (j : Nat) (ex : _), j ≤ x.length ∧ j + blankN (x.drop j) = blankN x ∧ m = x.length - j ∧ E = ⟨(0, .str x) :: (3, .int .i64 j) :: ex, .u⟩) (n := x.length) ⟨rfl, 0, [], by omega, by simp, rfl, rfl⟩ ?_
  rintro m E G ⟨rfl, j, ex, hj, hn, rfl, rfl⟩
  have hw := inc64 (i := j) (by omega)
  simp only [go_sem, ↓reduceIte, ↓ex_map, ↓run_addW, hw, lt_len, Int.toNat_natCast]
  refine ⟨fun hlt => ?_, fun hge => ?_⟩
  · obtain ⟨b, hb⟩ := get_lt (src := x) (i := j) hlt
    have hd := drop_get hb
    rw [hd] at hn
    have h10 : ((b.toNat : Int) == 10) = (b == 10) := u8_beq (b := 10)
    have h32 : ((b.toNat : Int) == 32) = (b == 32) := u8_beq (b := 32)
    have h45 : ((b.toNat : Int) == 45) = (b == 45) := u8_beq (b := 45)
    try simp only [h10, h32, h45]
    have hblank : (b = 32 ∨ b = 10) → ∃ m, m < x.length - j ∧ ∃ (i : Nat) (ex' : List (Nat × V)), i ≤ x.length ∧ i + blankN (x.drop i) = blankN x ∧ m = x.length - i ∧ (⟨[(0, .str x), (3, .int .i64 ((j + 1 : Nat) : Int))], .u⟩ : En) = ⟨(0, .str x) :: (3, .int .i64 i) :: ex', .u⟩ := by
      intro h
      rw [blankN_blank h] at hn
      exact ⟨x.length - (j + 1), by omega, j + 1, [], by omega, by omega, rfl, rfl⟩
    have hnone : ¬ (b = 32 ∨ b = 10) → ¬ (b = 45 ∧ (x.drop (j + 1)).head? = some 45) → V.int IntKind.i64 j = V.int IntKind.i64 (blankN x) := by
      intro h h2
      rw [blankN_none h h2] at hn
      rw [← hn]; rfl
    refine ⟨b, hb, fun e32 => ⟨b, hb, fun e10 => hblank (.inr (by simpa [h10] using e10)), fun e10 => ⟨b, hb, fun e45 => ⟨fun hl1 => ?_, fun hl1 => hnone ?_ ?_⟩, fun e45 => hnone ?_ ?_⟩⟩, fun e32 => hblank (.inl (by simpa [h32] using e32))⟩
    · have n32 : ¬ (b = 32 ∨ b = 10) := by rintro (rfl | rfl); simp at e32; simp at e10
      have b45 : b = 45 := by simpa [h45] using e45
      obtain ⟨b2, hb2⟩ := get_lt (src := x) (i := j + 1) hl1
      have h45' : ((b2.toNat : Int) == 45) = (b2 == 45) := u8_beq (b := 45)
      refine ⟨b2, hb2, fun e2 => ?_, fun e2 => hnone n32 ?_⟩
      · have b245 : b2 = 45 := by simpa [h45'] using e2
        subst b45
        rw [blankN_remark (by rw [drop_get hb2, b245]; rfl)] at hn
        have he : eolN (x.drop j) = eolN (x.drop (j + 1)) + 1 := by rw [hd]; rfl
        refine WP.loop' (fun m E G => G = [] ∧ ∃ (i : Nat) (ex : _), j ≤ i ∧ i ≤ x.length ∧ i + eolN (x.drop i) = j + eolN (x.drop j) ∧ m = x.length - i ∧ E = ⟨(0, .str x) :: (3, .int .i64 i) :: ex, .u⟩) (n := x.length - j) ⟨rfl, j, _, by omega, hj, rfl, rfl, rfl⟩ ?_
        rintro m E G ⟨rfl, i, ex, hji, hi, hin, rfl, rfl⟩
        have hwi := inc64 (i := i) (by omega)
        simp only [go_sem, ↓reduceIte, ↓ex_map, ↓run_addW, hwi, lt_len, Int.toNat_natCast]
        have hdone : ∀ ex0 : List (Nat × V), eolN (x.drop i) = 0 → ∃ m, m < x.length - j ∧ ∃ (i' : Nat) (ex' : List (Nat × V)), i' ≤ x.length ∧ i' + blankN (x.drop i') = blankN x ∧ m = x.length - i' ∧ (⟨(0, .str x) :: (3, .int .i64 (i : Int)) :: ex0, .u⟩ : En) = ⟨(0, .str x) :: (3, .int .i64 i') :: ex', .u⟩ := by
          intro ex0 h
          have e5 : x.drop i = (x.drop (j + 1)).drop (eolN (x.drop (j + 1))) := by
            rw [List.drop_drop]; congr 1; omega
          exact ⟨x.length - i, by omega, i, ex0, hi, by rw [e5]; omega, rfl, rfl⟩
        refine ⟨fun hli => ?_, fun hgi => hdone _ (by rw [List.drop_of_length_le (by omega)]; rfl)⟩
        obtain ⟨b3, hb3⟩ := get_lt (src := x) (i := i) hli
        have k10 : ((b3.toNat : Int) == 10) = (b3 == 10) := u8_beq (b := 10)
        rw [drop_get hb3, eolN_cons] at hin hdone
        have k11 : ((b3.toNat : Int) != 10) = !(b3 == 10) := by rw [bne, k10]
        refine ⟨b3, hb3, fun e => ?_, fun e => hdone _ (by rw [if_pos (by simpa [k11] using e)])⟩
        rw [if_neg (by simpa [k11] using e)] at hin
        exact ⟨x.length - (i + 1), by omega, i + 1, [], by omega, by omega, by omega, rfl, rfl⟩
      · rw [drop_get hb2]
        rintro ⟨_, h⟩
        cases h; simp at e2
    · rintro (rfl | rfl); simp at e32; simp at e10
    · rw [List.drop_of_length_le (by omega)]; simp
    · rintro (rfl | rfl); simp at e32; simp at e10
    · rintro ⟨rfl, _⟩; simp at e45
  · rw [List.drop_of_length_le (by omega), blankN_nil] at hn
    rw [← hn]; rfl
theorem place_P (x : L) (n : Nat) (hx : x.length < 4611686018427387900) (hn : n ≤ x.length) : Pu 126 [.str x, .int .i64 n] (.agg [.int .i64 (adv (1, 1) (x.take n)).1, .int .i64 (adv (1, 1) (x.take n)).2]) := by
  refine ⟨?_, rfl⟩
  refine T.of0 mix c_r02_Place rfl ?_
  unfold v_r02_Place
  simp only [go_sem, ↓reduceIte]
  have hb : ∀ (p : Int × Int) (l : L), 1 ≤ p.1 → 1 ≤ p.2 → 1 ≤ (adv p l).1 ∧ (adv p l).1 ≤ p.1 + l.length ∧ 1 ≤ (adv p l).2 ∧ (adv p l).2 ≤ p.2 + l.length := by
    intro p l
    induction l generalizing p with
    | nil => intro h1 h2; simp [adv_nil]; omega
    | cons c l ih =>
      intro h1 h2
      rw [adv_cons]
      by_cases hc : c = 10
      · have := ih (Lx.step p c) (by simp [Lx.step, hc]; omega) (by simp [Lx.step, hc])
        simp [Lx.step, hc] at this ⊢; omega
      · have := ih (Lx.step p c) (by simp [Lx.step, hc]; omega) (by simp [Lx.step, hc]; omega)
        simp [Lx.step, hc] at this ⊢; omega
  refine WP.range (n := n) (fun j E G => G = [.cells 0 [.int .i64 0, .int .i64 0], .cells 0 [.int .i64 (adv (1, 1) (x.take j)).1, .int .i64 (adv (1, 1) (x.take j)).2]] ∧ ∃ ex, E = ⟨(0, .str x) :: (1, .int .i64 n) :: (4, .ptr 0 0 0) :: (5, .ptr 1 0 0) :: (6, .int .i64 j) :: ex, .u⟩) ⟨rfl, [], rfl⟩ ?_
  rintro j E G hj ⟨rfl, ex, rfl⟩
  have hw := inc64 (i := j) (by omega)
  have hbb := hb (1, 1) (x.take j) (by simp) (by simp)
  have hlen : (x.take j).length ≤ x.length := by simp; omega
  simp only at hbb
  have hw1 : IntKind.i64.wrap ((adv (1, 1) (x.take j)).1 + 1) = (adv (1, 1) (x.take j)).1 + 1 := wrap64 (by omega) (by omega)
  have hw2 : IntKind.i64.wrap ((adv (1, 1) (x.take j)).2 + 1) = (adv (1, 1) (x.take j)).2 + 1 := wrap64 (by omega) (by omega)
  simp only [go_sem, ↓reduceIte, ↓ex_map, ↓run_addW, hw, hw1, hw2, lt_len, Int.toNat_natCast]
  refine ⟨fun hlt => ?_, fun hge => ?_⟩
  · have hlt' : j < n := by omega
    obtain ⟨b, hb3⟩ := get_lt (src := x) (i := j) (by omega)
    have k10 : ((b.toNat : Int) == 10) = (b == 10) := u8_beq (b := 10)
    have ht : x.take (j + 1) = x.take j ++ [b] := by rw [List.take_add_one, hb3]; rfl
    have ha : adv (1, 1) (x.take (j + 1)) = Lx.step (adv (1, 1) (x.take j)) b := by rw [ht, adv_append]; rfl
    rw [ha]
    refine ⟨b, hb3, fun e => ⟨hlt', ?_, [], rfl⟩, fun e => ⟨hlt', ?_, [], rfl⟩⟩
    · have : b = 10 := by simpa [k10] using e
      simp [Lx.step, this]
    · have : ¬ b = 10 := by intro h; simp [h] at e
      simp [Lx.step, this]
  · obtain rfl : j = n := by omega
    rfl
theorem fault_P (c : UInt8) (r : L) (hr : r.length < 4611686018427387900) (hc : cls c.toNat ≠ 0) (hd : cls c.toNat = 3 → digs (c :: r)) : Pu 127 [.str (c :: r)] (.int .i64 (errOf (kindS (cls c.toNat) (c :: r)) (c :: r) 0)) := by
  refine ⟨?_, rfl⟩
  refine T.of0 mix c_r02_fault rfl ?_
  unfold v_r02_fault
  have h1 := kindOf_P c r (by omega) hc
  simp only [go_sem, ↓reduceIte]
  refine ⟨_, _, h1.at rfl _, ?_⟩
  have hE : errOf (kindS (cls c.toNat) (c :: r)) (c :: r) 0 = if kindS (cls c.toNat) (c :: r) = 4 then (valS (c :: r)).2 else if (c :: r).length > 32 then 2 else 0 := by
    unfold errOf; simp
  rw [hE]
  simp only [go_sem, ↓reduceIte]
  refine ⟨fun e => ⟨fun h => ?_, fun h => ?_⟩, fun e => ?_⟩
  · rw [if_neg (by simpa using e), if_pos (by omega)]
  · rw [if_neg (by simpa using e), if_neg (by omega)]
  · have hk : kindS (cls c.toNat) (c :: r) = 4 := by simpa using e
    have h2 := rnumber_P (hd (kind4 hk)) (by simp)
    rw [if_pos hk]
    refine ⟨_, _, h2.at rfl _, ?_⟩
    simp only [go_sem, ↓reduceIte]
    exact ⟨_, rfl⟩
/-! ### All tokens. -/
theorem nextT_err {c : UInt8} {r : L} {p : Int × Int} (hc : cls c.toNat ≠ 0) : (nextT (c :: r) p).2 = errOf (kindS (cls c.toNat) ((c :: r).take (tokLen (c :: r)))) ((c :: r).take (tokLen (c :: r))) 0 := by
  simp only [nextT, if_neg hc]
  unfold errOf
  generalize (c :: r).take (tokLen (c :: r)) = t
  generalize kindS (cls c.toNat) t = k
  by_cases hk : k = 4
  · simp only [if_pos hk]; by_cases hv : (valS t).2 = 0 <;> simp [hv]
  · simp only [if_neg hk]; by_cases hv : t.length > 32 <;> simp [hv]
theorem nextT_tok {c : UInt8} {r : L} {p : Int × Int} (hc : cls c.toNat ≠ 0) (he : (nextT (c :: r) p).2 = 0) : (nextT (c :: r) p).1 = tok (kindS (cls c.toNat) ((c :: r).take (tokLen (c :: r)))) ((c :: r).take (tokLen (c :: r))) (if kindS (cls c.toNat) ((c :: r).take (tokLen (c :: r))) = 4 then (valS ((c :: r).take (tokLen (c :: r)))).1 else 0) p := by
  simp only [nextT, if_neg hc] at he ⊢
  generalize (c :: r).take (tokLen (c :: r)) = t at *
  generalize kindS (cls c.toNat) t = k at *
  by_cases hk : k = 4
  · simp only [if_pos hk] at he ⊢; by_cases hv : (valS t).2 = 0 <;> simp [hv] at he ⊢
  · simp only [if_neg hk] at he ⊢; by_cases hv : t.length > 32 <;> simp [hv] at he ⊢
def joinT (l : List Tok) (q : List Tok × Int × Int × Int) : List Tok × Int × Int × Int := (if q.2.1 = 0 then l ++ q.1 else [], q.2)
theorem rtokens_P (src : L) : Pu 83 [.str src] (.tup [toksV true (tokens src).1, .agg [.int .i64 (tokens src).2.1, .int .i64 (tokens src).2.2.1, .int .i64 (tokens src).2.2.2]]) := by
  refine ⟨?_, rfl⟩
  refine T.of0 mix c_r02_Tokens rfl ?_
  generalize hK : end0 _ _ = K
  have hend : ∀ {l : List Tok} {L : List (Nat × V)} {d : V} {H : Heap} {e a b : Int}, tokens src = (l, e, a, b) → getE L d 2 = toksV true l → getE L d 3 = .ptr 0 0 0 → getCells H 0 0 = some [.int .i64 e, .int .i64 a, .int .i64 b] → K .ret ⟨L, d⟩ H := by
    intro l L d H e a b h0 h2 h3 hg
    rw [← hK, h0]
    show end0 [.tmp 2, .cell 3 3 true] _ .ret ⟨L, d⟩ H
    rw [end0_tc, h2, h3, cellT_ptr, hg]
    simp only [go_sem, toksV]
    try simp [strip0]
  unfold v_r02_Tokens
  simp only [go_sem, ↓reduceIte]
  refine ⟨fun hgt => ?_, fun hle => ?_⟩
  · exact hend (l := []) (e := 2) (a := 1) (b := 1) (by unfold tokens; rw [if_pos (by omega)]) rfl rfl rfl
  have hn : src.length ≤ 8192 := by omega
  refine ⟨_, _, (blank_P src (by omega)).at rfl _, ?_⟩
  have hbl : ∀ j, j ≤ src.length → j + blankN (src.drop j) ≤ src.length := by
    intro j hj
    have := blankN_le _ (src.drop j) (Nat.le_refl _)
    rw [List.length_drop] at this; omega
  refine WP.loop' (fun m E H => ∃ (l : List Tok) (j : Nat) (ex : List (Nat × V)), getCells H 0 0 = some [.int .i64 0, .int .i64 0, .int .i64 0] ∧ l.length ≤ 2048 ∧ j ≤ src.length ∧ m = src.length - (j + blankN (src.drop j)) ∧
      tokens src = joinT l (toks (adv (1, 1) (src.take j)) l.length (src.drop j)) ∧
      E = ⟨(0, .str src) :: (3, .ptr 0 0 0) :: (4, toksV true l) :: (5, .int .i64 ((j + blankN (src.drop j) : Nat) : Int)) :: ex, .u⟩) (n := src.length - blankN src)
    ⟨[], 0, [], rfl, by simp, by simp, by simp, ?_, ?_⟩ ?_
  · unfold tokens joinT
    rw [if_neg (by omega), List.drop_zero]
    by_cases h : (toks (1, 1) 0 src).2.1 = 0
    · simp [h, adv_nil]
    · simp only [List.length_nil, List.take_zero, adv_nil, if_neg h]
      exact Prod.ext ((toks_err h).trans (if_neg h).symm) rfl
  · simp only [List.drop_zero, Nat.zero_add]; rfl
  rintro m E H ⟨l, j, ex, g0, hl, hj, rfl, hJ, rfl⟩
  have hbj := hbl j hj
  have hdd : src.drop (j + blankN (src.drop j)) = (src.drop j).drop (blankN (src.drop j)) := by rw [List.drop_drop]
  have hp1 : adv (adv (1, 1) (src.take j)) ((src.drop j).take (blankN (src.drop j))) = adv (1, 1) (src.take (j + blankN (src.drop j))) := by rw [← adv_append, ← List.take_add]
  generalize hj1 : j + blankN (src.drop j) = j1 at *
  simp only [go_sem, ↓reduceIte, ↓ex_map, ↓run_addW, ↓run_sliceStrL, lt_len, Int.toNat_natCast, toksV]
  refine ⟨fun hlt => ?_, fun hge => ?_⟩
  · obtain ⟨c, hc⟩ := get_lt (src := src) (i := j1) hlt
    have hd1 := drop_get hc
    have hnx := toks_next (p := adv (1, 1) (src.take j)) (n := l.length) (hdd.symm.trans hd1)
    rw [hp1] at hnx
    have hL := length_P c (src.drop (j1 + 1)) (by simp; omega)
    rw [← hd1] at hL
    refine ⟨by omega, _, _, hL.at rfl _, ?_⟩
    have hpl := place_P src j1 (by omega) (by omega)
    generalize hp1' : adv (1, 1) (src.take j1) = p1 at *
    have htl := tokLen_le (src.drop j1)
    rw [List.length_drop] at htl
    by_cases hc0 : cls c.toNat = 0
    · have htz : tokLen (src.drop j1) = 0 := by rw [hd1]; simp only [tokLen, if_pos hc0]
      rw [htz]
      simp only [go_sem, ↓reduceIte, Int.natCast_zero, beq_self_eq_true]
      refine ⟨_, _, hpl.at rfl _, ?_⟩
      simp only [go_sem, ↓reduceIte, ↓g0]
      refine hend (l := []) (e := 20) (a := p1.1) (b := p1.2) ?_ rfl rfl (gc_same (gc_lt g0))
      have e : errT (c :: src.drop (j1 + 1)) p1 l.length = 20 := by simp [errT, nextT, hc0]
      rw [hJ, hnx, e]
      rfl
    have hpos : 0 < tokLen (src.drop j1) := by rw [hd1]; simp only [tokLen, if_neg hc0]; omega
    have herr := nextT_err (r := src.drop (j1 + 1)) (p := p1) hc0
    have htok := nextT_tok (r := src.drop (j1 + 1)) (p := p1) hc0
    have hadv : adv p1 ((c :: src.drop (j1 + 1)).take (tokLen (c :: src.drop (j1 + 1)))) = (p1.1, p1.2 + tokLen (c :: src.drop (j1 + 1))) := by
      rw [adv_plain (tok_plain hc0), List.length_take, Nat.min_eq_left (tokLen_le _)]
    have hdig : cls c.toNat = 3 → digs ((c :: src.drop (j1 + 1)).take (tokLen (c :: src.drop (j1 + 1)))) := fun h => digs_run h
    obtain ⟨r, hr⟩ : ∃ r, (c :: src.drop (j1 + 1)).take (tokLen (c :: src.drop (j1 + 1))) = c :: r := by
      rw [← hd1]
      obtain ⟨k, hk⟩ : ∃ k, tokLen (src.drop j1) = k + 1 := ⟨tokLen (src.drop j1) - 1, by omega⟩
      rw [hk, hd1]; exact ⟨_, rfl⟩
    have hrl : (c :: r).length = tokLen (src.drop j1) := by rw [← hr, ← hd1, List.length_take, List.length_drop]; omega
    rw [hr] at herr htok hadv hdig
    rw [← hd1] at hnx hr herr htok hadv
    have herT : errT (src.drop j1) p1 l.length = if (nextT (src.drop j1) p1).2 = 0 ∧ l.length ≥ 2048 then 2 else (nextT (src.drop j1) p1).2 := rfl
    rw [herr] at herT htok
    generalize hT3 : tokLen (src.drop j1) = tl at *
    have htr : adv (1, 1) (src.take (j1 + tl)) = (p1.1, p1.2 + tl) := by rw [List.take_add, adv_append, hp1', hr, hadv]
    rw [← htr, List.drop_drop] at hnx
    have hF := fault_P c r (by simp at hrl; omega) hc0 hdig
    have hKO := kindOf_P c r (by simp at hrl; omega) hc0
    generalize errOf (kindS (cls c.toNat) (c :: r)) (c :: r) 0 = er at *
    have b1 : ((tl : Int) == 0) = false := by simp; omega
    have hcut : List.drop j1 (List.take (j1 + tl) src) = c :: r := by
      rw [← hr, List.take_add, List.drop_append, List.drop_of_length_le (by simp; omega)]
      simp [Nat.min_eq_left (Nat.le_of_lt hlt)]
    have hw1 : IntKind.i64.wrap ((j1 : Int) + (tl : Int)) = ((j1 + tl : Nat) : Int) := by rw [wrap64 (by omega) (by omega)]; rfl
    simp only [go_sem, ↓reduceIte, ↓ex_map, ↓run_addW, ↓run_sliceStr, lt_len, Int.toNat_natCast, b1, hw1, hcut]
    refine ⟨by constructor <;> omega, _, _, hF.at rfl _, ?_⟩
    have hbad : ∀ {e : Int} {L : List (Nat × V)} {d : V} {H' : Heap}, e = errT (src.drop j1) p1 l.length → e ≠ 0 → getE L d 2 = toksV true [] → getE L d 3 = .ptr 0 0 0 → getCells H' 0 0 = some [.int .i64 e, .int .i64 p1.1, .int .i64 p1.2] → K .ret ⟨L, d⟩ H' := by
      intro e L d H' h1 h2 h3 h4 h5
      refine hend (l := []) ?_ h3 h4 h5
      rw [hJ, hnx, if_neg (by rw [← h1]; exact h2), ← h1]
      unfold joinT
      rw [if_neg h2]
    by_cases he : er = 0
    · subst he
      have c1 : ((0 : Int) == 0) = true := rfl
      have c2 : ((0 : Int) != 0) = false := rfl
      have c3 : ((2 : Int) != 0) = true := rfl
      by_cases h48 : l.length = 2048
      · have c4 : ((l.length : Int) == 2048) = true := by simp; omega
        simp only [go_sem, ↓reduceIte, ↓ex_map, ↓run_addW, ↓run_sliceStr, ↓run_sliceStrL, lt_len, Int.toNat_natCast, b1, hw1, hcut, c1, c2, c3, c4]
        refine ⟨_, _, hpl.at rfl _, ?_⟩
        simp only [go_sem, ↓reduceIte, ↓ex_map, ↓run_addW, ↓run_sliceStr, ↓run_sliceStrL, lt_len, Int.toNat_natCast, b1, hw1, hcut, ↓g0]
        exact hbad (by rw [herT, if_pos ⟨rfl, by omega⟩]) (by decide) rfl rfl (gc_same (gc_lt g0))
      · have c4 : ((l.length : Int) == 2048) = false := by simp; omega
        simp only [go_sem, ↓reduceIte, ↓ex_map, ↓run_addW, ↓run_sliceStr, ↓run_sliceStrL, lt_len, Int.toNat_natCast, b1, hw1, hcut, c1, c2, c3, c4]
        refine ⟨_, _, hKO.at rfl _, ?_⟩
        simp only [go_sem, ↓reduceIte, ↓ex_map, ↓run_addW, ↓run_sliceStr, ↓run_sliceStrL, lt_len, Int.toNat_natCast, b1, hw1, hcut]
        refine ⟨_, _, hpl.at rfl _, ?_⟩
        simp only [go_sem, ↓reduceIte, ↓ex_map, ↓run_addW, ↓run_sliceStr, ↓run_sliceStrL, lt_len, Int.toNat_natCast, b1, hw1, hcut, ↓g0, ↓gc_new, stX]
        have herT0 : errT (src.drop j1) p1 l.length = 0 := by rw [herT, if_neg (by rintro ⟨_, h⟩; omega)]
        have htk := htok rfl
        have hbl1 := hbl (j1 + tl) (by omega)
        have hbl2 := blank_P (src.drop (j1 + tl)) (by simp; omega)
        have hw3 : IntKind.i64.wrap (((j1 + tl : Nat) : Int) + ((blankN (src.drop (j1 + tl)) : Nat) : Int)) = ((j1 + tl + blankN (src.drop (j1 + tl)) : Nat) : Int) := by rw [wrap64 (by omega) (by omega)]; rfl
        have hm2 : src.length - (j1 + tl + blankN (src.drop (j1 + tl))) < src.length - j1 := by omega
        by_cases hkk : kindS (cls c.toNat) (c :: r) = 4
        · have c5 : (kindS (cls c.toNat) (c :: r) == 4) = true := by simpa using hkk
          have hN := rnumber_P (hdig (kind4 hkk)) (by simp)
          rw [if_pos hkk] at htk
          simp only [go_sem, ↓reduceIte, ↓ex_map, ↓run_addW, ↓run_sliceStr, ↓run_sliceStrL, lt_len, Int.toNat_natCast, b1, hw1, hcut, c5]
          refine ⟨_, _, hN.at rfl _, ?_⟩
          simp only [go_sem, ↓reduceIte, ↓ex_map, ↓run_addW, ↓run_sliceStr, ↓run_sliceStrL, lt_len, Int.toNat_natCast, b1, hw1, hcut, ↓gc_new, stX]
          refine ⟨by simp [fits]; omega, by omega, _, _, hbl2.at rfl _, ?_⟩
          simp only [go_sem, ↓reduceIte, ↓ex_map, ↓run_addW, ↓run_sliceStr, ↓run_sliceStrL, lt_len, Int.toNat_natCast, b1, hw1, hcut, c5, ↓gc_new, stX]
          refine ⟨_, hm2, l ++ [(nextT (src.drop j1) p1).1], j1 + tl, [], gcL g0 _, by simp; omega, by omega, rfl, ?_, ?_⟩
          · rw [hJ, hnx, if_pos herT0]
            unfold joinT
            rw [List.length_append, List.length_singleton]
            by_cases hq : (toks (adv (1, 1) (src.take (j1 + tl))) (l.length + 1) (src.drop (j1 + tl))).2.1 = 0
            · simp only [hq, ↓reduceIte, List.append_assoc, List.singleton_append]
            · simp only [if_neg hq]
          · rw [htk, hw3, List.map_append]; rfl
        · have c5 : (kindS (cls c.toNat) (c :: r) == 4) = false := by simpa using hkk
          rw [if_neg hkk] at htk
          simp only [go_sem, ↓reduceIte, ↓ex_map, ↓run_addW, ↓run_sliceStr, ↓run_sliceStrL, lt_len, Int.toNat_natCast, b1, hw1, hcut, c5, ↓gc_new, stX]
          refine ⟨by simp [fits]; omega, by omega, _, _, hbl2.at rfl _, ?_⟩
          simp only [go_sem, ↓reduceIte, ↓ex_map, ↓run_addW, ↓run_sliceStr, ↓run_sliceStrL, lt_len, Int.toNat_natCast, b1, hw1, hcut, c5, ↓gc_new, stX]
          refine ⟨_, hm2, l ++ [(nextT (src.drop j1) p1).1], j1 + tl, [], gcL g0 _, by simp; omega, by omega, rfl, ?_, ?_⟩
          · rw [hJ, hnx, if_pos herT0]
            unfold joinT
            rw [List.length_append, List.length_singleton]
            by_cases hq : (toks (adv (1, 1) (src.take (j1 + tl))) (l.length + 1) (src.drop (j1 + tl))).2.1 = 0
            · simp only [hq, ↓reduceIte, List.append_assoc, List.singleton_append]
            · simp only [if_neg hq]
          · rw [htk, hw3, List.map_append]; rfl
    · have c1 : (er == 0) = false := by simpa using he
      have c2 : (er != 0) = true := by simpa using he
      simp only [go_sem, ↓reduceIte, ↓ex_map, ↓run_addW, ↓run_sliceStr, ↓run_sliceStrL, lt_len, Int.toNat_natCast, b1, hw1, hcut, c1, c2]
      refine ⟨_, _, hpl.at rfl _, ?_⟩
      simp only [go_sem, ↓reduceIte, ↓ex_map, ↓run_addW, ↓run_sliceStr, ↓run_sliceStrL, lt_len, Int.toNat_natCast, b1, hw1, hcut, ↓g0]
      exact hbad (by rw [herT, if_neg (by rintro ⟨h, _⟩; exact he h)]) he rfl rfl (gc_same (gc_lt g0))
  · have hz : (src.drop j).drop (blankN (src.drop j)) = [] := by rw [← hdd]; exact List.drop_of_length_le (by omega)
    rw [toks_nil hz] at hJ
    simp only [go_sem, ↓reduceIte, ↓g0]
    refine hend (l := l) (e := 0) (a := 0) (b := 0) (by rw [hJ]; simp [joinT]) rfl rfl (gc_same (gc_lt g0))
theorem rOne_P (s : L) : Pu 64 [.str s] (oneV s) := by
  refine ⟨?_, rfl⟩
  refine T.of0 mix c_r02_One rfl ?_
  have hT := rtokens_P s
  unfold v_r02_One
  simp only [go_sem, ↓reduceIte]
  refine ⟨_, _, hT.at rfl _, ?_⟩
  rcases htk : tokens s with ⟨l, e, a, b⟩
  have hone := one_of htk
  simp only [go_sem, ↓reduceIte, ↓ex_map, toksV, tokC]
  refine ⟨fun he => ⟨fun hl => ?_, fun hl => ?_⟩, fun he => ?_⟩
  · have he' : e = 0 := by simpa using he
    have hl' : l.length = 1 := by simp at hl; omega
    match l, hl' with
    | [t], _ =>
      refine ⟨by decide, t, rfl, fun hs => ?_, fun hs => ⟨by decide, t, rfl, ?_⟩⟩
      · rw [oneV_none (by rw [hone, if_neg]; rintro ⟨_, _, t', h1, h2⟩; cases h1; simp [h2] at hs)]; rfl
      · rw [oneV_some (t := t) (by rw [hone, if_pos ⟨he', rfl, t, rfl, by simpa using hs⟩]; rfl)]; rfl
  · rw [oneV_none (by rw [hone, if_neg]; rintro ⟨_, h, _⟩; simp [h] at hl)]; rfl
  · rw [oneV_none (by rw [hone, if_neg]; rintro ⟨h, _⟩; simp [h] at he)]; rfl
end Go.Proofs.YtoaohapbbnpbeaaGreat.Vm
namespace Go.Proofs.YtoaohapbbnpbeaaGreat.Vm
open Go Lx
set_option linter.unusedSimpArgs false

/-- Is a text a token of a kind? -/
def isK (s : Str) (k : Int) : Bool := match one s with
  | some t => t.k == k
  | none => false
def isVar (s : Str) : Bool := isK s 1 || isK s 3
def isPar (s : Str) : Bool := s == [95] || isK s 1
def rPa : Pa → Bool
  | .mk k s n xs _ _ => if k = 1 then s == [] && n == 0 && xs.isEmpty else if k = 2 then isK s 1 && n == 0 && xs.isEmpty else if k = 3 then s == [] && xs.isEmpty else if k = 4 then isK s 2 && n == 0 && (xs.map rPa).all id else false
def rTy : Ty → Bool
  | .mk k n s xs => n == 0 && (if k = 1 then isK s 1 && xs.isEmpty else if k = 2 then isK s 2 && (xs.map rTy).all id else if k = 3 then s == [] && xs.length == 2 && (xs.map rTy).all id else false)
theorem rPa_eq {k : Int} {s : Str} {n : Int} {xs : List Pa} {l c : Int} : rPa (.mk k s n xs l c) = if k = 1 then s == [] && n == 0 && xs.isEmpty else if k = 2 then isK s 1 && n == 0 && xs.isEmpty else if k = 3 then s == [] && xs.isEmpty else if k = 4 then isK s 2 && n == 0 && xs.all rPa else false := by
  rw [rPa, List.all_map]; rfl
theorem rTy_eq {k n : Int} {s : Str} {xs : List Ty} : rTy (.mk k n s xs) = (n == 0 && (if k = 1 then isK s 1 && xs.isEmpty else if k = 2 then isK s 2 && xs.all rTy else if k = 3 then s == [] && xs.length == 2 && xs.all rTy else false)) := by
  rw [rTy, List.all_map]; rfl
/-- How many guards stand at a body. -/
def rhN' : Rh → Nat
  | .mk g _ => g.length
def gOk (n : Nat) (r : Rh) : Bool := rhN' r == 1 || (rhN' r == 0 && n == 1)
def biN' : Bi → Str
  | .mk s _ _ _ => s
def apartS : List Str → Bool
  | a :: b :: r => !(a == b) && apartS (b :: r)
  | _ => true
mutual
def rEx : Ex → Bool
  | .mk k s n ps xs al bs _ _ => (k == 1 || k == 2 || s == []) && (k == 3 || n == 0) && (xs.map rEx).all id &&
    (if k = 1 then ps.isEmpty && xs.isEmpty && al.isEmpty && bs.isEmpty && isVar s
     else if k = 2 then ps.isEmpty && xs.isEmpty && al.isEmpty && bs.isEmpty && isK s 2
     else if k = 3 then ps.isEmpty && xs.isEmpty && al.isEmpty && bs.isEmpty
     else if k = 4 then ps.isEmpty && xs.length == 2 && al.isEmpty && bs.isEmpty
     else if k = 5 then !ps.isEmpty && xs.length == 1 && al.isEmpty && bs.isEmpty && ps.all isPar
     else if k = 6 then ps.isEmpty && xs.length == 1 && al.isEmpty && !bs.isEmpty && ((bs.map rBi).all id && apartS (bs.map biN'))
     else if k = 7 then ps.isEmpty && xs.length == 1 && !al.isEmpty && bs.isEmpty && (al.map rAl).all id
     else if k = 8 then ps.isEmpty && xs.length == 3 && al.isEmpty && bs.isEmpty else false)
def rAl : Al → Bool
  | .mk p rs => rPa p && (!rs.isEmpty && rs.all (gOk rs.length) && (rs.map rRh).all id)
def rRh : Rh → Bool
  | .mk g b => (g.map rEx).all id && rEx b
def rCl : Cl → Bool
  | .mk ps rs => ps.all rPa && (!rs.isEmpty && rs.all (gOk rs.length) && (rs.map rRh).all id)
def rBi : Bi → Bool
  | .mk s cs _ _ => isVar s && !cs.isEmpty && (cs.map rCl).all id
end
def rBs (l : List Bi) : Bool := l.all rBi && apartS (l.map biN')
def rRs (l : List Rh) : Bool := !l.isEmpty && l.all (gOk l.length) && l.all rRh
theorem all_map {α : Type} {f : α → Bool} {l : List α} : (l.map f).all id = l.all f := by rw [List.all_map]; rfl
theorem rEx_eq {k : Int} {s : Str} {n : Int} {ps : List Str} {xs : List Ex} {al : List Al} {bs : List Bi} {l c : Int} : rEx (.mk k s n ps xs al bs l c) = ((k == 1 || k == 2 || s == []) && (k == 3 || n == 0) && xs.all rEx &&
    (if k = 1 then ps.isEmpty && xs.isEmpty && al.isEmpty && bs.isEmpty && isVar s
     else if k = 2 then ps.isEmpty && xs.isEmpty && al.isEmpty && bs.isEmpty && isK s 2
     else if k = 3 then ps.isEmpty && xs.isEmpty && al.isEmpty && bs.isEmpty
     else if k = 4 then ps.isEmpty && xs.length == 2 && al.isEmpty && bs.isEmpty
     else if k = 5 then !ps.isEmpty && xs.length == 1 && al.isEmpty && bs.isEmpty && ps.all isPar
     else if k = 6 then ps.isEmpty && xs.length == 1 && al.isEmpty && !bs.isEmpty && rBs bs
     else if k = 7 then ps.isEmpty && xs.length == 1 && !al.isEmpty && bs.isEmpty && al.all rAl
     else if k = 8 then ps.isEmpty && xs.length == 3 && al.isEmpty && bs.isEmpty else false)) := by
  rw [rEx, all_map, all_map, all_map]; rfl
theorem rAl_eq {p : Pa} {rs : List Rh} : rAl (.mk p rs) = (rPa p && rRs rs) := by rw [rAl, all_map]; rfl
theorem rRh_eq {g : List Ex} {b : Ex} : rRh (.mk g b) = (g.all rEx && rEx b) := by rw [rRh, all_map]
theorem rCl_eq {ps : List Pa} {rs : List Rh} : rCl (.mk ps rs) = (ps.all rPa && rRs rs) := by rw [rCl, all_map]; rfl
theorem rBi_eq {s : Str} {cs : List Cl} {l c : Int} : rBi (.mk s cs l c) = (isVar s && !cs.isEmpty && cs.all rCl) := by rw [rBi, all_map]

/-! ### Names. -/
theorem showIs_P (s : Str) (k : Int) : Pu 41 [.str s, .int .i64 k] (.bool (isK s k)) := by
  refine ⟨?_, rfl⟩
  refine T.of0 mix c_show_is rfl ?_
  unfold v_show_is isK
  have h := lexOne_P s
  simp only [go_sem, ↓reduceIte]
  refine ⟨_, _, h.at rfl _, ?_⟩
  cases ho : one s with
  | none => rw [oneV_none ho]; simp only [go_sem, ↓reduceIte, tokC, tok0]
  | some t => rw [oneV_some ho]; simp only [go_sem, ↓reduceIte, tokC]
theorem rIs_P (s : Str) (k : Int) : Pu 31 [.str s, .int .i64 k] (.bool (isK s k)) := by
  refine ⟨?_, rfl⟩
  refine T.of0 mix c_r07_Is rfl ?_
  unfold v_r07_Is isK
  have h := rOne_P s
  simp only [go_sem, ↓reduceIte]
  refine ⟨_, _, h.at rfl _, ?_⟩
  cases ho : one s with
  | none => rw [oneV_none ho]; simp only [go_sem, ↓reduceIte, tokC, tok0]
  | some t => rw [oneV_some ho]; simp only [go_sem, ↓reduceIte, tokC]
theorem showVar_P (s : Str) : Pu 40 [.str s] (.bool (isVar s)) := by
  refine ⟨?_, rfl⟩
  refine T.of0 mix c_show_variable rfl ?_
  unfold v_show_variable isVar
  simp only [go_sem, ↓reduceIte]
  refine ⟨_, _, (showIs_P s 1).at rfl _, ?_⟩
  cases isK s 1 <;> simp only [go_sem, ↓reduceIte]
  refine ⟨_, _, (showIs_P s 3).at rfl _, ?_⟩
  simp only [go_sem, ↓reduceIte, strip, strip0]
theorem rNamed_P (s : Str) : Pu 49 [.str s] (.bool (isVar s)) := by
  refine ⟨?_, rfl⟩
  refine T.of0 mix c_r07_Named rfl ?_
  unfold v_r07_Named isVar
  simp only [go_sem, ↓reduceIte]
  refine ⟨_, _, (rIs_P s 1).at rfl _, ?_⟩
  cases isK s 1 <;> simp only [go_sem, ↓reduceIte]
  refine ⟨_, _, (rIs_P s 3).at rfl _, ?_⟩
  simp only [go_sem, ↓reduceIte, strip, strip0]
theorem showPar_P (s : Str) : Pu 43 [.str s] (.bool (isPar s)) := by
  refine ⟨?_, rfl⟩
  refine T.of0 mix c_show_param rfl ?_
  unfold v_show_param isPar
  simp only [go_sem, ↓reduceIte]
  cases s == [95] <;> simp only [go_sem, ↓reduceIte]
  refine ⟨_, _, (showIs_P s 1).at rfl _, ?_⟩
  simp only [go_sem, ↓reduceIte, strip, strip0]
/-! ### Lists. -/
theorem all_api_Pat_P {f : Nat} {l : List Pa} {g : Pa → Bool} (hl : l.length < 4611686018427387903) (h : ∀ x ∈ l, Pu f [.agg (paC x)] (.bool (g x))) : Pu 69 [.sl false 6 (l.map paC), .fn f []] (.bool (l.all g)) := by
  refine ⟨?_, rfl⟩
  refine T.of0 mix c_show_all_api_Pat_ rfl ?_
  unfold v_show_all_api_Pat_
  simp only [go_sem, ↓reduceIte]
  refine WP.range (n := l.length) (fun i E F => l.all g = (l.drop i).all g ∧ ∃ ex, E = ⟨(1, .fn f []) :: (7, .sl false 6 (l.map paC)) :: (8, .int .i64 l.length) :: (9, .int .i64 i) :: ex, .u⟩) ⟨rfl, _, rfl⟩ ?_
  rintro i E F hi ⟨hinv, ex, rfl⟩
  have hw := inc64 (i := i) (by omega)
  simp only [go_sem, ↓reduceIte, ↓ex_map, ↓run_addW, hw, Int.toNat_natCast, lt_len]
  refine ⟨fun hlt => ?_, fun hge => by rw [hinv, List.drop_of_length_le (by omega)]; rfl⟩
  obtain ⟨x, hg, hm⟩ := getL hlt
  have hT := h x hm
  rw [drop_get hg, List.all_cons] at hinv
  simp only [go_sem, ↓reduceIte, ↓ex_map, ↓run_addW, hw, Int.toNat_natCast, lt_len, hg, Nat.le_refl, holeAt_app, gc_app0, gc_appN, set_app0, set_appN, List.append_assoc]
  refine ⟨_, _, hT.at (by simp only [go_sem]) _, ?_⟩
  simp only [go_sem, ↓reduceIte, ↓ex_map, ↓run_addW, hw, Int.toNat_natCast, lt_len, Bool.not_eq_true', Bool.not_eq_false']
  refine ⟨fun e => by rw [hinv, e]; rfl, fun e => ⟨hlt, by simp only [Bool.not_eq_false] at e; rw [hinv, e]; rfl, _, rfl⟩⟩
theorem all_api_Expr_P {f : Nat} {l : List Ex} {g : Ex → Bool} (hl : l.length < 4611686018427387903) (h : ∀ x ∈ l, Pu f [.agg (exC x)] (.bool (g x))) : Pu 39 [.sl false 9 (l.map exC), .fn f []] (.bool (l.all g)) := by
  refine ⟨?_, rfl⟩
  refine T.of0 mix c_show_all_api_Expr_ rfl ?_
  unfold v_show_all_api_Expr_
  simp only [go_sem, ↓reduceIte]
  refine WP.range (n := l.length) (fun i E F => l.all g = (l.drop i).all g ∧ ∃ ex, E = ⟨(1, .fn f []) :: (7, .sl false 9 (l.map exC)) :: (8, .int .i64 l.length) :: (9, .int .i64 i) :: ex, .u⟩) ⟨rfl, _, rfl⟩ ?_
  rintro i E F hi ⟨hinv, ex, rfl⟩
  have hw := inc64 (i := i) (by omega)
  simp only [go_sem, ↓reduceIte, ↓ex_map, ↓run_addW, hw, Int.toNat_natCast, lt_len]
  refine ⟨fun hlt => ?_, fun hge => by rw [hinv, List.drop_of_length_le (by omega)]; rfl⟩
  obtain ⟨x, hg, hm⟩ := getL hlt
  have hT := h x hm
  rw [drop_get hg, List.all_cons] at hinv
  simp only [go_sem, ↓reduceIte, ↓ex_map, ↓run_addW, hw, Int.toNat_natCast, lt_len, hg, Nat.le_refl, holeAt_app, gc_app0, gc_appN, set_app0, set_appN, List.append_assoc]
  refine ⟨_, _, hT.at (by simp only [go_sem]) _, ?_⟩
  simp only [go_sem, ↓reduceIte, ↓ex_map, ↓run_addW, hw, Int.toNat_natCast, lt_len, Bool.not_eq_true', Bool.not_eq_false']
  refine ⟨fun e => by rw [hinv, e]; rfl, fun e => ⟨hlt, by simp only [Bool.not_eq_false] at e; rw [hinv, e]; rfl, _, rfl⟩⟩
theorem all_api_Alt_P {f : Nat} {l : List Al} {g : Al → Bool} (hl : l.length < 4611686018427387903) (h : ∀ x ∈ l, Pu f [.agg (alC x)] (.bool (g x))) : Pu 45 [.sl false 7 (l.map alC), .fn f []] (.bool (l.all g)) := by
  refine ⟨?_, rfl⟩
  refine T.of0 mix c_show_all_api_Alt_ rfl ?_
  unfold v_show_all_api_Alt_
  simp only [go_sem, ↓reduceIte]
  refine WP.range (n := l.length) (fun i E F => l.all g = (l.drop i).all g ∧ ∃ ex, E = ⟨(1, .fn f []) :: (7, .sl false 7 (l.map alC)) :: (8, .int .i64 l.length) :: (9, .int .i64 i) :: ex, .u⟩) ⟨rfl, _, rfl⟩ ?_
  rintro i E F hi ⟨hinv, ex, rfl⟩
  have hw := inc64 (i := i) (by omega)
  simp only [go_sem, ↓reduceIte, ↓ex_map, ↓run_addW, hw, Int.toNat_natCast, lt_len]
  refine ⟨fun hlt => ?_, fun hge => by rw [hinv, List.drop_of_length_le (by omega)]; rfl⟩
  obtain ⟨x, hg, hm⟩ := getL hlt
  have hT := h x hm
  rw [drop_get hg, List.all_cons] at hinv
  simp only [go_sem, ↓reduceIte, ↓ex_map, ↓run_addW, hw, Int.toNat_natCast, lt_len, hg, Nat.le_refl, holeAt_app, gc_app0, gc_appN, set_app0, set_appN, List.append_assoc]
  refine ⟨_, _, hT.at (by simp only [go_sem]) _, ?_⟩
  simp only [go_sem, ↓reduceIte, ↓ex_map, ↓run_addW, hw, Int.toNat_natCast, lt_len, Bool.not_eq_true', Bool.not_eq_false']
  refine ⟨fun e => by rw [hinv, e]; rfl, fun e => ⟨hlt, by simp only [Bool.not_eq_false] at e; rw [hinv, e]; rfl, _, rfl⟩⟩
theorem all_api_Rhs_P {f : Nat} {l : List Rh} {g : Rh → Bool} (hl : l.length < 4611686018427387903) (h : ∀ x ∈ l, Pu f [.agg (rhC x)] (.bool (g x))) : Pu 104 [.sl false 10 (l.map rhC), .fn f []] (.bool (l.all g)) := by
  refine ⟨?_, rfl⟩
  refine T.of0 mix c_show_all_api_Rhs_ rfl ?_
  unfold v_show_all_api_Rhs_
  simp only [go_sem, ↓reduceIte]
  refine WP.range (n := l.length) (fun i E F => l.all g = (l.drop i).all g ∧ ∃ ex, E = ⟨(1, .fn f []) :: (7, .sl false 10 (l.map rhC)) :: (8, .int .i64 l.length) :: (9, .int .i64 i) :: ex, .u⟩) ⟨rfl, _, rfl⟩ ?_
  rintro i E F hi ⟨hinv, ex, rfl⟩
  have hw := inc64 (i := i) (by omega)
  simp only [go_sem, ↓reduceIte, ↓ex_map, ↓run_addW, hw, Int.toNat_natCast, lt_len]
  refine ⟨fun hlt => ?_, fun hge => by rw [hinv, List.drop_of_length_le (by omega)]; rfl⟩
  obtain ⟨x, hg, hm⟩ := getL hlt
  have hT := h x hm
  rw [drop_get hg, List.all_cons] at hinv
  simp only [go_sem, ↓reduceIte, ↓ex_map, ↓run_addW, hw, Int.toNat_natCast, lt_len, hg, Nat.le_refl, holeAt_app, gc_app0, gc_appN, set_app0, set_appN, List.append_assoc]
  refine ⟨_, _, hT.at (by simp only [go_sem]) _, ?_⟩
  simp only [go_sem, ↓reduceIte, ↓ex_map, ↓run_addW, hw, Int.toNat_natCast, lt_len, Bool.not_eq_true', Bool.not_eq_false']
  refine ⟨fun e => by rw [hinv, e]; rfl, fun e => ⟨hlt, by simp only [Bool.not_eq_false] at e; rw [hinv, e]; rfl, _, rfl⟩⟩
theorem all_string_P {f : Nat} {l : List Str} {g : Str → Bool} (hl : l.length < 4611686018427387903) (h : ∀ x ∈ l, Pu f [.str x] (.bool (g x))) : Pu 42 [.sl false 1 (l.map stC), .fn f []] (.bool (l.all g)) := by
  refine ⟨?_, rfl⟩
  refine T.of0 mix c_show_all_string_ rfl ?_
  unfold v_show_all_string_
  simp only [go_sem, ↓reduceIte]
  refine WP.range (n := l.length) (fun i E F => l.all g = (l.drop i).all g ∧ ∃ ex, E = ⟨(1, .fn f []) :: (7, .sl false 1 (l.map stC)) :: (8, .int .i64 l.length) :: (9, .int .i64 i) :: ex, .u⟩) ⟨rfl, _, rfl⟩ ?_
  rintro i E F hi ⟨hinv, ex, rfl⟩
  have hw := inc64 (i := i) (by omega)
  simp only [go_sem, ↓reduceIte, ↓ex_map, ↓run_addW, hw, Int.toNat_natCast, lt_len]
  refine ⟨fun hlt => ?_, fun hge => by rw [hinv, List.drop_of_length_le (by omega)]; rfl⟩
  obtain ⟨x, hg, hm⟩ := getL hlt
  have hT := h x hm
  rw [drop_get hg, List.all_cons] at hinv
  simp only [go_sem, ↓reduceIte, ↓ex_map, ↓run_addW, hw, Int.toNat_natCast, lt_len, stC_eq, hg]
  refine ⟨_, _, hT.at rfl _, ?_⟩
  simp only [go_sem, ↓reduceIte, ↓ex_map, ↓run_addW, hw, Int.toNat_natCast, lt_len, Bool.not_eq_true', Bool.not_eq_false']
  refine ⟨fun e => by rw [hinv, e]; rfl, fun e => ⟨hlt, by simp only [Bool.not_eq_false] at e; rw [hinv, e]; rfl, _, rfl⟩⟩
end Go.Proofs.YtoaohapbbnpbeaaGreat.Vm
namespace Go.Proofs.YtoaohapbbnpbeaaGreat.Vm
open Go

/-- A call, and what holds of its answer. -/
structure CallG (f : Nat) (args : List V) (H : Heap) (F : V → Heap → Prop) : Prop where
  h : ∃ r H', T Tryz.prog f args H r H' ∧ F r H'
theorem callG_eq {f : Nat} {args : List V} {H : Heap} {F : V → Heap → Prop} : (∃ r H', T Tryz.prog f args H r H' ∧ F r H') = CallG f args H F := propext ⟨fun h => ⟨h⟩, fun h => h.h⟩
theorem Pu.call {f : Nat} {a : List V} {r : V} (h : Pu f a r) {args : List V} {H : Heap} {F : V → Heap → Prop} (e : args.map norm0 = a) (k : F r H) : CallG f args H F := ⟨_, _, h.at e H, k⟩
theorem T.call {f : Nat} {args : List V} {H : Heap} {F : V → Heap → Prop} {r : V} {H' : Heap} (h : T Tryz.prog f args H r H') (k : F r H') : CallG f args H F := ⟨_, _, h, k⟩
@[go_sem] theorem norm0_fn {f : Nat} {cs : List V} : norm0 (.fn f cs) = .fn f cs := rfl
theorem len_eq0 {α : Type} {l : List α} : (((l.length : Nat) : Int) == 0) = l.isEmpty := by cases l <;> simp <;> omega
theorem len_eq1 {α : Type} {l : List α} : (((l.length : Nat) : Int) == 1) = (l.length == 1) := by rw [Bool.eq_iff_iff]; simp; omega
theorem len_eq2 {α : Type} {l : List α} : (((l.length : Nat) : Int) == 2) = (l.length == 2) := by rw [Bool.eq_iff_iff]; simp; omega
theorem len_eq3 {α : Type} {l : List α} : (((l.length : Nat) : Int) == 3) = (l.length == 3) := by rw [Bool.eq_iff_iff]; simp; omega
theorem len_gt0 {α : Type} {l : List α} : (((l.length : Nat) : Int) > 0) = ((!l.isEmpty) = true) := by cases l <;> simp <;> omega
end Go.Proofs.YtoaohapbbnpbeaaGreat.Vm
namespace Go.Proofs.YtoaohapbbnpbeaaGreat.Vm
open Go Lx
set_option linter.unusedSimpArgs false

theorem showPat_P (n : Nat) : ∀ x : Pa, SizeOf.sizeOf x ≤ n → PaB x → Pu 70 [.agg (paC x)] (.bool (rPa x)) := by
  induction n with
  | zero => rintro ⟨⟩ h; simp at h
  | succ n ih =>
    rintro ⟨k, s, m, xs, l, c⟩ hn hB
    simp only [Pa.mk.sizeOf_spec] at hn
    cases hB with | mk h1 h2 =>
    refine ⟨?_, by simp only [idsL, idsV, paC_ids, Bool.and_self]⟩
    refine T.of0 mix c_show_RightPat rfl ?_
    unfold v_show_RightPat
    rw [rPa_eq]
    have hA := all_api_Pat_P (f := 70) (l := xs) (g := rPa) (by omega) fun x hx => ih x (by have := List.sizeOf_lt_of_mem hx; omega) (h2 x hx)
    have hI1 := showIs_P s 1
    have hI2 := showIs_P s 2
    have hE : xs.all rPa = false → xs.isEmpty = false := by cases xs <;> simp
    generalize xs.all rPa = w at hA hE ⊢
    simp only [paC_eq, callG_eq, go_sem, ↓reduceIte, len_eq0, len_eq1, len_eq2, len_eq3, len_gt0]
    repeat' first
      | apply And.intro
      | intro _
      | (refine hI1.call ?_ ?_
         · simp only [go_sem]; done
         try simp only [paC_eq, callG_eq, go_sem, ↓reduceIte, len_eq0, len_eq1, len_eq2, len_eq3, len_gt0])
      | (refine hI2.call ?_ ?_
         · simp only [go_sem]; done
         try simp only [paC_eq, callG_eq, go_sem, ↓reduceIte, len_eq0, len_eq1, len_eq2, len_eq3, len_gt0])
      | (refine hA.call ?_ ?_
         · simp only [go_sem]; done
         try simp only [paC_eq, callG_eq, go_sem, ↓reduceIte, len_eq0, len_eq1, len_eq2, len_eq3, len_gt0])
      | fail
    all_goals (try clear ih hI1 hI2 hA; simp_all)
theorem rPatsL {l : List Pa} (hl : l.length < 4611686018427387903) (h : ∀ x ∈ l, Pu 51 [.agg (paC x)] (.bool (rPa x))) : Pu 72 [.sl false 6 (l.map paC)] (.bool (l.all rPa)) := by
  refine ⟨?_, rfl⟩
  refine T.of0 mix c_r07_RightPats rfl ?_
  unfold v_r07_RightPats
  simp only [go_sem, ↓reduceIte]
  refine WP.range (n := l.length) (fun i E F => l.all rPa = (l.drop i).all rPa ∧ ∃ ex, E = ⟨(0, .sl false 6 (l.map paC)) :: (3, .int .i64 i) :: ex, .u⟩) ⟨rfl, _, rfl⟩ ?_
  rintro i E F hi ⟨hinv, ex, rfl⟩
  have hw := inc64 (i := i) (by omega)
  simp only [go_sem, ↓reduceIte, ↓ex_map, ↓run_addW, hw, Int.toNat_natCast, lt_len]
  refine ⟨fun hlt => ?_, fun hge => by rw [hinv, List.drop_of_length_le (by omega)]; rfl⟩
  obtain ⟨x, hg, hm⟩ := getL hlt
  have hT := h x hm
  rw [drop_get hg, List.all_cons] at hinv
  simp only [go_sem, ↓reduceIte, ↓ex_map, ↓run_addW, hw, Int.toNat_natCast, lt_len, hg, Nat.le_refl]
  refine ⟨_, _, hT.at (by simp only [go_sem]) _, ?_⟩
  simp only [go_sem, ↓reduceIte, ↓run_addW, hw, Bool.not_eq_true', Bool.not_eq_false']
  refine ⟨fun e => by rw [hinv, e]; rfl, fun e => ⟨hlt, by simp only [Bool.not_eq_false] at e; rw [hinv, e]; rfl, _, rfl⟩⟩
theorem rPat_P (n : Nat) : ∀ x : Pa, SizeOf.sizeOf x ≤ n → PaB x → Pu 51 [.agg (paC x)] (.bool (rPa x)) := by
  induction n with
  | zero => rintro ⟨⟩ h; simp at h
  | succ n ih =>
    rintro ⟨k, s, m, xs, l, c⟩ hn hB
    simp only [Pa.mk.sizeOf_spec] at hn
    cases hB with | mk h1 h2 =>
    refine ⟨?_, by simp only [idsL, idsV, paC_ids, Bool.and_self]⟩
    refine T.of0 mix c_r07_RightPat rfl ?_
    unfold v_r07_RightPat
    rw [rPa_eq]
    have hA := rPatsL (l := xs) (by omega) fun x hx => ih x (by have := List.sizeOf_lt_of_mem hx; omega) (h2 x hx)
    have hI1 := rIs_P s 1
    have hI2 := rIs_P s 2
    have hE : xs.all rPa = false → xs.isEmpty = false := by cases xs <;> simp
    generalize xs.all rPa = w at hA hE ⊢
    simp only [paC_eq, callG_eq, go_sem, ↓reduceIte, len_eq0, len_eq1, len_eq2, len_eq3, len_gt0]
    repeat' first
      | apply And.intro
      | intro _
      | (refine hI1.call ?_ ?_
         · simp only [go_sem]; done
         try simp only [paC_eq, callG_eq, go_sem, ↓reduceIte, len_eq0, len_eq1, len_eq2, len_eq3, len_gt0])
      | (refine hI2.call ?_ ?_
         · simp only [go_sem]; done
         try simp only [paC_eq, callG_eq, go_sem, ↓reduceIte, len_eq0, len_eq1, len_eq2, len_eq3, len_gt0])
      | (refine hA.call ?_ ?_
         · simp only [go_sem]; done
         try simp only [paC_eq, callG_eq, go_sem, ↓reduceIte, len_eq0, len_eq1, len_eq2, len_eq3, len_gt0])
      | fail
    all_goals (try clear ih hI1 hI2 hA; simp_all)
end Go.Proofs.YtoaohapbbnpbeaaGreat.Vm
namespace Go.Proofs.YtoaohapbbnpbeaaGreat.Vm
open Go Lx
set_option linter.unusedSimpArgs false

@[go_sem] theorem eqV_iiii {a b c d x y z w : Int} : eqV [.i, .i, .i, .i] true (.agg [.int .i64 a, .int .i64 b, .int .i64 c, .int .i64 d]) (.agg [.int .i64 x, .int .i64 y, .int .i64 z, .int .i64 w]) = some (a == x && (b == y && (c == z && (d == w && true)))) := rfl
theorem paC_get6 {p : Pa} {v : V} {l : List V} : (paC p ++ v :: l)[6]? = some v := by rw [List.getElem?_append_right (by rw [paC_len]; exact Nat.le_refl _), paC_len]; rfl
theorem cast0 : ((0 : Nat) : Int) = 0 := rfl
theorem cast1 : ((1 : Nat) : Int) = 1 := rfl
theorem kind8 (k : Int) : k = 1 ∨ k = 2 ∨ k = 3 ∨ k = 4 ∨ k = 5 ∨ k = 6 ∨ k = 7 ∨ k = 8 ∨ (k ≠ 1 ∧ k ≠ 2 ∧ k ≠ 3 ∧ k ≠ 4 ∧ k ≠ 5 ∧ k ≠ 6 ∧ k ≠ 7 ∧ k ≠ 8) := by omega
def PE (n : Nat) : Prop := ∀ x : Ex, SizeOf.sizeOf x ≤ n → ExB x → Pu 24 [.agg (exC x)] (.bool (rEx x))
def PA (n : Nat) : Prop := ∀ x : Al, SizeOf.sizeOf x ≤ n → AlB x → Pu 46 [.agg (alC x)] (.bool (rAl x))
def PR (n : Nat) : Prop := ∀ l : List Rh, SizeOf.sizeOf l ≤ n → LB 168 RhB l → Pu 71 [.sl false 10 (l.map rhC)] (.bool (rRs l))
def PB (n : Nat) : Prop := ∀ l : List Bi, SizeOf.sizeOf l ≤ n → LB 56 BiB l → Pu 44 [.sl false 4 (l.map biC)] (.bool (rBs l))
theorem rhC_get0 {g : List Ex} {b : Ex} : rhC (.mk g b) = .sl false 9 (g.map exC) :: exC b := rhC_eq g b
theorem alP {n : Nat} (h : PR n) : PA (n + 1) := by
  rintro ⟨p, rs⟩ hn hB
  simp only [Al.mk.sizeOf_spec] at hn
  cases hB with | mk h1 h2 h3 =>
  refine ⟨?_, by simp only [idsL, idsV, alC_ids, Bool.and_self]⟩
  refine T.of0 mix c_show_rightAlt rfl ?_
  unfold v_show_rightAlt
  rw [rAl_eq]
  have hp := showPat_P _ p (Nat.le_refl _) h1
  have hr := h rs (by omega) ⟨h2, h3⟩
  generalize rPa p = w1 at *
  generalize rRs rs = w2 at *
  simp only [callG_eq, go_sem, ↓reduceIte, len_eq0, len_eq1, len_eq2, len_eq3, len_gt0]
  simp only [alC_eq, paC_get6, callG_eq, go_sem, ↓reduceIte, len_eq0, len_eq1, len_eq2, len_eq3, len_gt0]
  repeat' first
    | apply And.intro
    | intro _
    | (refine hp.call ?_ ?_
       · simp only [go_sem]; done
       try simp only [alC_eq, paC_get6, callG_eq, go_sem, ↓reduceIte, len_eq0, len_eq1, len_eq2, len_eq3, len_gt0])
    | (refine hr.call ?_ ?_
       · simp only [go_sem]; done
       try simp only [alC_eq, paC_get6, callG_eq, go_sem, ↓reduceIte, len_eq0, len_eq1, len_eq2, len_eq3, len_gt0])
    | fail
  all_goals (try clear hp hr h; simp_all)
theorem rh1P {n : Nat} (h : PE n) (r : Rh) (hn : SizeOf.sizeOf r ≤ n) (hB : RhB r) : Pu 105 [.agg (rhC r)] (.bool (rhN' r == 1 && rRh r)) := by
  obtain ⟨g, b⟩ := r
  simp only [Rh.mk.sizeOf_spec] at hn
  cases hB with | mk h1 h2 h3 =>
  refine ⟨?_, by simp only [idsL, idsV, rhC_ids, Bool.and_self]⟩
  refine T.of0 mix c_show_rightRhs_1 rfl ?_
  unfold v_show_rightRhs_1
  rw [rRh_eq]
  have hb := h b (by omega) h3
  match g, h1, h2, hn with
  | [], _, _, _ => simp only [rhC_eq, rhN', cast0, callG_eq, go_sem, ↓reduceIte, len_eq0, len_eq1, len_eq2, len_eq3, len_gt0]; simp
  | x :: [], _, h2, hn =>
    have hx := h x (by simp at hn; omega) (h2 x (by simp))
    simp only [List.all_cons, List.all_nil, rhN']
    generalize rEx b = w1 at *
    generalize rEx x = w2 at *
    simp only [rhC_eq, ↓ex_map, cast1, Int.toNat_zero, List.getElem?_cons_zero, Int.le_refl, beq_self_eq_true, callG_eq, go_sem, ↓reduceIte, len_eq0, len_eq1, len_eq2, len_eq3, len_gt0]
    try simp only [Nat.le_refl, true_and]
    repeat' first
      | apply And.intro
      | intro _
      | (refine hx.call ?_ ?_
         · simp only [go_sem]; done
         try simp only [rhC_eq, ↓ex_map, callG_eq, go_sem, ↓reduceIte, len_eq0, len_eq1, len_eq2, len_eq3, len_gt0])
      | (refine hb.call ?_ ?_
         · simp only [go_sem]; done
         try simp only [rhC_eq, ↓ex_map, callG_eq, go_sem, ↓reduceIte, len_eq0, len_eq1, len_eq2, len_eq3, len_gt0])
      | fail
    all_goals (try clear hx hb h; simp_all)
  | x :: y :: r, _, _, _ =>
    have h1 : (((r.length + 1 + 1 : Nat) : Int) == 1) = false := by simp; omega
    have h2 : (r.length + 1 + 1 == 1) = false := by simp
    simp only [rhC_eq, rhN', h1, h2, Bool.false_and, List.length_cons, callG_eq, go_sem, ↓reduceIte, len_eq0, len_eq1, len_eq2, len_eq3, len_gt0]
theorem rRs_nil : rRs [] = false := rfl
theorem rRs_one {b : Ex} : rRs [.mk [] b] = rEx b := by unfold rRs; simp [gOk, rhN', rRh_eq]
theorem rRs_all {l : List Rh} (h : ¬ (l.length = 1 ∧ ∀ r ∈ l, rhN' r = 0)) : rRs l = (!l.isEmpty && l.all fun r => rhN' r == 1 && rRh r) := by
  unfold rRs
  rw [Bool.and_assoc]
  congr 1
  rw [Bool.eq_iff_iff]
  simp only [Bool.and_eq_true, List.all_eq_true, gOk, Bool.or_eq_true, beq_iff_eq]
  constructor
  · rintro ⟨h1, h2⟩ r hr
    refine ⟨?_, h2 r hr⟩
    rcases h1 r hr with h3 | ⟨h3, h4⟩
    · exact h3
    · exfalso
      refine h ⟨h4, ?_⟩
      match l, h4 with
      | [x], _ => intro y hy; simp at hy hr; rw [hy, ← hr]; exact h3
  · intro h1
    exact ⟨fun r hr => .inl (h1 r hr).1, fun r hr => (h1 r hr).2⟩
theorem rhP {n : Nat} (h : PE n) : PR (n + 1) := by
  intro l hn hB
  refine ⟨?_, rfl⟩
  refine T.of0 mix c_show_rightRhs rfl ?_
  unfold v_show_rightRhs
  have hA := all_api_Rhs_P (f := 105) (l := l) (g := fun r => rhN' r == 1 && rRh r) hB.lt fun r hr => rh1P h r (by have := List.sizeOf_lt_of_mem hr; omega) (hB.2 r hr)
  match l, hn, hB with
  | [], _, _ =>
    rw [rRs_nil]
    simp only [cast0, callG_eq, go_sem, ↓reduceIte, len_eq0, len_eq1, len_eq2, len_eq3, len_gt0]
    simp
  | ⟨g, b⟩ :: rest, hn, hB =>
    simp only [List.cons.sizeOf_spec, Rh.mk.sizeOf_spec] at hn
    have hb : ExB b := by cases hB.2 _ (List.mem_cons_self ..) with | mk _ _ h3 => exact h3
    have hT := h b (by omega) hb
    by_cases h0 : rest = [] ∧ g = []
    · obtain ⟨rfl, rfl⟩ := h0
      rw [rRs_one]
      simp only [rhC_eq, ↓ex_map, cast0, cast1, Int.toNat_zero, List.getElem?_cons_zero, Int.le_refl, beq_self_eq_true, callG_eq, go_sem, ↓reduceIte, len_eq0, len_eq1, len_eq2, len_eq3, len_gt0]
      repeat' first
        | apply And.intro
        | intro _
        | (refine hT.call ?_ ?_
           · simp only [go_sem]; done
           try simp only [rhC_eq, ↓ex_map, callG_eq, go_sem, ↓reduceIte, len_eq0, len_eq1, len_eq2, len_eq3, len_gt0])
        | fail
      all_goals (try clear hT hA h; simp_all)
    · rw [rRs_all (by rintro ⟨h1, h2⟩; refine h0 ⟨by simpa using h1, ?_⟩; have := h2 _ (List.mem_cons_self ..); simpa [rhN'] using this)]
      simp only [List.isEmpty_cons, Bool.not_false, Bool.true_and]
      generalize (List.all ((Rh.mk g b) :: rest) fun r => rhN' r == 1 && rRh r) = w at *
      have e1 : (((rest.length + 1 : Nat) : Int) > 0) = True := by simp
      have e2 : (((rest.length + 1 : Nat) : Int) == 1) = rest.isEmpty := by cases rest <;> simp; omega
      simp only [rhC_eq, List.map_cons] at hA
      have h0' : rest.isEmpty = true → g.isEmpty = false := by intro h1; cases g <;> simp_all
      simp only [rhC_eq, ↓ex_map, cast0, cast1, e1, e2, Int.toNat_zero, List.getElem?_cons_zero, List.map_cons, List.length_cons, Int.le_refl, beq_self_eq_true, callG_eq, go_sem, ↓reduceIte, len_eq0, len_eq1, len_eq2, len_eq3, len_gt0]
      repeat' first
        | apply And.intro
        | intro _
        | (refine hA.call ?_ ?_
           · simp only [go_sem]; done
           try simp only [rhC_eq, ↓ex_map, callG_eq, go_sem, ↓reduceIte, len_eq0, len_eq1, len_eq2, len_eq3, len_gt0])
        | (refine hT.call ?_ ?_
           · simp only [go_sem]; done
           try simp only [rhC_eq, ↓ex_map, callG_eq, go_sem, ↓reduceIte, len_eq0, len_eq1, len_eq2, len_eq3, len_gt0])
        | fail
      all_goals (try clear hT hA h; simp_all)
def prevI (l : List Bi) (i : Nat) : Bool := (l.drop i).all rBi && apartS ((l.drop (i - 1)).map biN')
theorem prevI_0 (l : List Bi) : rBs l = prevI l 0 := rfl
theorem prevI_end {l : List Bi} {i : Nat} (h : l.length ≤ i) : prevI l i = true := by
  unfold prevI
  rw [List.drop_of_length_le h]
  have : (l.drop (i - 1)).length ≤ 1 := by rw [List.length_drop]; omega
  match l.drop (i - 1), this with
  | [], _ => rfl
  | [x], _ => rfl
theorem prevI_first {l : List Bi} {x : Bi} (h : l[0]? = some x) : prevI l 0 = (rBi x && prevI l 1) := by
  unfold prevI
  match l, h with
  | y :: r, h =>
    cases h
    simp [Bool.and_assoc]
theorem prevI_next {l : List Bi} {i : Nat} {x y : Bi} (h : l[i]? = some x) (h' : l[i + 1]? = some y) : prevI l (i + 1) = (!(biN' x == biN' y) && (rBi y && prevI l (i + 1 + 1))) := by
  unfold prevI
  rw [drop_get h']
  simp only [Nat.add_sub_cancel]
  rw [drop_get h, drop_get h']
  simp only [List.map_cons, List.all_cons, apartS]
  cases rBi y <;> cases (biN' x == biN' y) <;> simp
theorem biP {n : Nat} (h : PR n) : PB (n + 1) := by
  intro l hn hB
  refine ⟨?_, rfl⟩
  refine T.of0 mix c_show_rightBinds rfl ?_
  unfold v_show_rightBinds
  have hlt := hB.lt
  simp only [go_sem, ↓reduceIte]
  refine WP.range (n := l.length) (fun i E F => rBs l = prevI l i ∧ ∃ ex, E = ⟨(0, .sl false 4 (l.map biC)) :: (7, .sl false 4 (l.map biC)) :: (8, .int .i64 l.length) :: (9, .int .i64 i) :: ex, .u⟩) ⟨prevI_0 l, _, rfl⟩ ?_
  rintro i E F hi ⟨hinv, ex, rfl⟩
  have hw := inc64 (i := i) (by omega)
  simp only [go_sem, ↓reduceIte, ↓ex_map, ↓run_addW, ↓run_subW, hw, Int.toNat_natCast, lt_len]
  refine ⟨fun hlt => ?_, fun hge => by rw [hinv, prevI_end (by omega)]⟩
  obtain ⟨⟨s, cs, a, b⟩, hg, hm⟩ := getL hlt
  have hsz := List.sizeOf_lt_of_mem hm
  simp only [Bi.mk.sizeOf_spec] at hsz
  cases hB.2 _ hm with | mk b1 b2 =>
  have hV := showVar_P s
  rw [show rBs l = prevI l 0 from rfl] at hinv ⊢
  rw [← show rBs l = prevI l 0 from rfl] at hinv ⊢
  by_cases h0 : i = 0
  · subst h0
    rw [prevI_first hg, rBi_eq] at hinv
    simp only [biC_eq, ↓run_addW, ↓run_subW, hg, gc_app0, gc_appN, set_app0, set_appN, List.append_assoc, cast0, show ¬ ((0 : Int) > 0) by decide, callG_eq, go_sem, ↓reduceIte, len_eq0, len_eq1, len_eq2, len_eq3, len_gt0]
    refine hV.call (by simp only [go_sem]) ?_
    have hw9 : IntKind.i64.wrap (0 + 1) = ((1 : Nat) : Int) := by decide
    simp only [biC_eq, ↓run_addW, ↓run_subW, gc_app0, gc_appN, set_app0, set_appN, List.append_assoc, callG_eq, go_sem, ↓reduceIte, len_eq0, len_eq1, len_eq2, len_eq3, len_gt0]
    refine ⟨fun e => ?_, fun e => by simp only [Bool.not_eq_false, Bool.not_eq_true'] at e; rw [hinv, e]; rfl⟩
    simp only [Bool.not_eq_false'] at e
    rw [e] at hinv
    refine ⟨fun e => by rw [hinv, e]; rfl, fun e => ?_⟩
    rw [e] at hinv
    simp only [Bool.not_false, Bool.true_and] at hinv
    have hbc : cs.length < 4611686018427387903 := by omega
    refine WP.range (n := cs.length) (fun j E G => rBs l = (((cs.drop j).all rCl) && prevI l 1) ∧ ∃ ex, E = ⟨(0, .sl false 4 (l.map biC)) :: (7, .sl false 4 (l.map biC)) :: (8, .int .i64 l.length) :: (9, .int .i64 0) :: (40, .sl false 2 (cs.map clC)) :: (41, .int .i64 cs.length) :: (42, .int .i64 j) :: ex, .u⟩) ⟨hinv, _, rfl⟩ ?_
    rintro j E G hj ⟨hin2, ex2, rfl⟩
    have hw2 := inc64 (i := j) (by omega)
    simp only [↓ex_map, ↓run_addW, hw, hw2, hw9, Int.toNat_natCast, lt_len, callG_eq, go_sem, ↓reduceIte, len_eq0, len_eq1, len_eq2, len_eq3, len_gt0]
    refine ⟨fun hlj => ?_, fun hgj => ?_⟩
    · obtain ⟨⟨ps, rs⟩, kg, km⟩ := getL hlj
      have hsz2 := List.sizeOf_lt_of_mem km
      simp only [Cl.mk.sizeOf_spec] at hsz2
      cases b2 _ km with | mk c1 c2 c3 c4 =>
      rw [drop_get kg, List.all_cons, rCl_eq] at hin2
      have hA := all_api_Pat_P (f := 70) (l := ps) (g := rPa) (by omega) fun x hx => showPat_P _ x (Nat.le_refl _) (c2 x hx)
      have hR := h rs (by omega) ⟨c3, c4⟩
      generalize ps.all rPa = w1 at *
      generalize rRs rs = w2 at *
      generalize (cs.drop (j + 1)).all rCl = w3 at *
      simp only [clC_eq, ↓ex_map, ↓run_addW, hw, hw2, Int.toNat_natCast, lt_len, kg, Nat.le_refl, holeAt_app, gc_app0, gc_appN, set_app0, set_appN, List.append_assoc, callG_eq, go_sem, ↓reduceIte, len_eq0, len_eq1, len_eq2, len_eq3, len_gt0]
      repeat' first
        | apply And.intro
        | intro _
        | (refine hA.call ?_ ?_
           · simp only [go_sem]; done
           try simp only [clC_eq, ↓run_addW, hw, hw2, gc_app0, gc_appN, set_app0, set_appN, List.append_assoc, callG_eq, go_sem, ↓reduceIte, len_eq0, len_eq1, len_eq2, len_eq3, len_gt0])
        | (refine hR.call ?_ ?_
           · simp only [go_sem]; done
           try simp only [clC_eq, ↓run_addW, hw, hw2, gc_app0, gc_appN, set_app0, set_appN, List.append_assoc, callG_eq, go_sem, ↓reduceIte, len_eq0, len_eq1, len_eq2, len_eq3, len_gt0])
        | fail
      all_goals (try clear hA hR; first | exact ⟨_, rfl⟩ | exact hlj | (rw [hin2]; clear hin2 hinv h hn hB hg hm b2 c2 c4 km kg; simp_all))
    · rw [List.drop_of_length_le (by omega)] at hin2
      simp only [List.all_nil, Bool.true_and] at hin2
      exact ⟨hlt, hin2, _, rfl⟩
  · obtain ⟨k, rfl⟩ : ∃ k, i = k + 1 := ⟨i - 1, by omega⟩
    obtain ⟨⟨s', cs', a', b'⟩, hg', hm'⟩ := getL (show k < l.length by omega)
    rw [prevI_next hg' hg, rBi_eq] at hinv
    have hw1 : IntKind.i64.wrap (((k + 1 : Nat) : Int) - 1) = (k : Int) := by rw [wrap64 (by omega) (by omega)]; omega
    have hgt : (((k + 1 : Nat) : Int) > 0) = True := by simp
    have hge : (0 ≤ (k : Int)) = True := by simp
    simp only [biC_eq, ↓ex_map, ↓run_addW, ↓run_subW, hg, hg', hw1, hgt, hge, Int.toNat_natCast, gc_app0, gc_appN, set_app0, set_appN, List.append_assoc, biN', callG_eq, go_sem, ↓reduceIte, len_eq0, len_eq1, len_eq2, len_eq3, len_gt0]
    simp only [biN'] at hinv
    refine ⟨fun e => ?_, fun e => by simp only [Bool.not_eq_false] at e; rw [hinv, e]; rfl⟩
    rw [e] at hinv
    simp only [Bool.not_false, Bool.true_and] at hinv
    refine hV.call (by simp only [go_sem]) ?_
    have hw9 := hw
    simp only [biC_eq, ↓run_addW, ↓run_subW, gc_app0, gc_appN, set_app0, set_appN, List.append_assoc, callG_eq, go_sem, ↓reduceIte, len_eq0, len_eq1, len_eq2, len_eq3, len_gt0]
    refine ⟨fun e => ?_, fun e => by simp only [Bool.not_eq_false, Bool.not_eq_true'] at e; rw [hinv, e]; rfl⟩
    simp only [Bool.not_eq_false'] at e
    rw [e] at hinv
    refine ⟨fun e => by rw [hinv, e]; rfl, fun e => ?_⟩
    rw [e] at hinv
    simp only [Bool.not_false, Bool.true_and] at hinv
    have hbc : cs.length < 4611686018427387903 := by omega
    refine WP.range (n := cs.length) (fun j E G => rBs l = (((cs.drop j).all rCl) && prevI l (k + 1 + 1)) ∧ ∃ ex, E = ⟨(0, .sl false 4 (l.map biC)) :: (7, .sl false 4 (l.map biC)) :: (8, .int .i64 l.length) :: (9, .int .i64 ((k + 1 : Nat) : Int)) :: (40, .sl false 2 (cs.map clC)) :: (41, .int .i64 cs.length) :: (42, .int .i64 j) :: ex, .u⟩) ⟨hinv, _, rfl⟩ ?_
    rintro j E G hj ⟨hin2, ex2, rfl⟩
    have hw2 := inc64 (i := j) (by omega)
    simp only [↓ex_map, ↓run_addW, hw, hw2, hw9, Int.toNat_natCast, lt_len, callG_eq, go_sem, ↓reduceIte, len_eq0, len_eq1, len_eq2, len_eq3, len_gt0]
    refine ⟨fun hlj => ?_, fun hgj => ?_⟩
    · obtain ⟨⟨ps, rs⟩, kg, km⟩ := getL hlj
      have hsz2 := List.sizeOf_lt_of_mem km
      simp only [Cl.mk.sizeOf_spec] at hsz2
      cases b2 _ km with | mk c1 c2 c3 c4 =>
      rw [drop_get kg, List.all_cons, rCl_eq] at hin2
      have hA := all_api_Pat_P (f := 70) (l := ps) (g := rPa) (by omega) fun x hx => showPat_P _ x (Nat.le_refl _) (c2 x hx)
      have hR := h rs (by omega) ⟨c3, c4⟩
      generalize ps.all rPa = w1 at *
      generalize rRs rs = w2 at *
      generalize (cs.drop (j + 1)).all rCl = w3 at *
      simp only [clC_eq, ↓ex_map, ↓run_addW, hw, hw2, Int.toNat_natCast, lt_len, kg, Nat.le_refl, holeAt_app, gc_app0, gc_appN, set_app0, set_appN, List.append_assoc, callG_eq, go_sem, ↓reduceIte, len_eq0, len_eq1, len_eq2, len_eq3, len_gt0]
      repeat' first
        | apply And.intro
        | intro _
        | (refine hA.call ?_ ?_
           · simp only [go_sem]; done
           try simp only [clC_eq, ↓run_addW, hw, hw2, gc_app0, gc_appN, set_app0, set_appN, List.append_assoc, callG_eq, go_sem, ↓reduceIte, len_eq0, len_eq1, len_eq2, len_eq3, len_gt0])
        | (refine hR.call ?_ ?_
           · simp only [go_sem]; done
           try simp only [clC_eq, ↓run_addW, hw, hw2, gc_app0, gc_appN, set_app0, set_appN, List.append_assoc, callG_eq, go_sem, ↓reduceIte, len_eq0, len_eq1, len_eq2, len_eq3, len_gt0])
        | fail
      all_goals (try clear hA hR; first | exact ⟨_, rfl⟩ | exact hlj | (rw [hin2]; clear hin2 hinv h hn hB hg hm b2 c2 c4 km kg; simp_all))
    · rw [List.drop_of_length_le (by omega)] at hin2
      simp only [List.all_nil, Bool.true_and] at hin2
      exact ⟨hlt, hin2, _, rfl⟩
theorem exP {n : Nat} (h : PE n) (hA : PA n) (hB : PB n) : PE (n + 1) := by
  rintro ⟨k, s, m, ps, xs, al, bs, l, c⟩ hn hx
  simp only [Ex.mk.sizeOf_spec] at hn
  cases hx with | mk a1 a2 a3 a4 a5 a6 a7 =>
  refine ⟨?_, by simp only [idsL, idsV, exC_ids, Bool.and_self]⟩
  refine T.of0 mix c_show_RightExpr rfl ?_
  unfold v_show_RightExpr
  rw [rEx_eq]
  have hX := all_api_Expr_P (f := 24) (l := xs) (g := rEx) (by omega) fun x hx => h x (by have := List.sizeOf_lt_of_mem hx; omega) (a5 x hx)
  have hL := all_api_Alt_P (f := 46) (l := al) (g := rAl) (by omega) fun x hx => hA x (by have := List.sizeOf_lt_of_mem hx; omega) (a6 x hx)
  have hP := all_string_P (f := 43) (l := ps) (g := isPar) (by omega) fun x _ => showPar_P x
  have hBB := hB bs (by omega) ⟨a4, a7⟩
  have hV := showVar_P s
  have hC := showIs_P s 2
  generalize xs.all rEx = w1 at *
  generalize al.all rAl = w2 at *
  generalize ps.all isPar = w3 at *
  generalize rBs bs = w4 at *
  generalize isVar s = w5 at *
  generalize isK s 2 = w6 at *
  clear h hA hB a1 a2 a3 a4 a5 a6 a7 hn
  rcases kind8 k with rfl | rfl | rfl | rfl | rfl | rfl | rfl | rfl | ⟨h1, h2, h3, h4, h5, h6, h7, h8⟩
  · have e1 : ((1 : Int) == 1) = true := by decide
    have e2 : ((1 : Int) == 2) = false := by decide
    have e3 : ((1 : Int) == 3) = false := by decide
    have e4 : ((1 : Int) == 4) = false := by decide
    have e5 : ((1 : Int) == 5) = false := by decide
    have e6 : ((1 : Int) == 6) = false := by decide
    have e7 : ((1 : Int) == 7) = false := by decide
    have e8 : ((1 : Int) == 8) = false := by decide
    have e9 : ((1 : Int) != 3) = true := by decide
    simp only [exC_eq, e1, e2, e3, e4, e5, e6, e7, e8, e9, callG_eq, go_sem, ↓reduceIte, len_eq0, len_eq1, len_eq2, len_eq3, len_gt0]
    repeat' first
      | apply And.intro
      | intro _
      | (refine hX.call ?_ ?_
         · simp only [go_sem]; done
         try simp only [exC_eq, e1, e2, e3, e4, e5, e6, e7, e8, e9, callG_eq, go_sem, ↓reduceIte, len_eq0, len_eq1, len_eq2, len_eq3, len_gt0])
      | (refine hL.call ?_ ?_
         · simp only [go_sem]; done
         try simp only [exC_eq, e1, e2, e3, e4, e5, e6, e7, e8, e9, callG_eq, go_sem, ↓reduceIte, len_eq0, len_eq1, len_eq2, len_eq3, len_gt0])
      | (refine hP.call ?_ ?_
         · simp only [go_sem]; done
         try simp only [exC_eq, e1, e2, e3, e4, e5, e6, e7, e8, e9, callG_eq, go_sem, ↓reduceIte, len_eq0, len_eq1, len_eq2, len_eq3, len_gt0])
      | (refine hBB.call ?_ ?_
         · simp only [go_sem]; done
         try simp only [exC_eq, e1, e2, e3, e4, e5, e6, e7, e8, e9, callG_eq, go_sem, ↓reduceIte, len_eq0, len_eq1, len_eq2, len_eq3, len_gt0])
      | (refine hV.call ?_ ?_
         · simp only [go_sem]; done
         try simp only [exC_eq, e1, e2, e3, e4, e5, e6, e7, e8, e9, callG_eq, go_sem, ↓reduceIte, len_eq0, len_eq1, len_eq2, len_eq3, len_gt0])
      | (refine hC.call ?_ ?_
         · simp only [go_sem]; done
         try simp only [exC_eq, e1, e2, e3, e4, e5, e6, e7, e8, e9, callG_eq, go_sem, ↓reduceIte, len_eq0, len_eq1, len_eq2, len_eq3, len_gt0])
      | fail
    all_goals (try clear hX hL hP hBB hV hC; simp_all [Bool.and_assoc])
  · have e1 : ((2 : Int) == 1) = false := by decide
    have e2 : ((2 : Int) == 2) = true := by decide
    have e3 : ((2 : Int) == 3) = false := by decide
    have e4 : ((2 : Int) == 4) = false := by decide
    have e5 : ((2 : Int) == 5) = false := by decide
    have e6 : ((2 : Int) == 6) = false := by decide
    have e7 : ((2 : Int) == 7) = false := by decide
    have e8 : ((2 : Int) == 8) = false := by decide
    have e9 : ((2 : Int) != 3) = true := by decide
    simp only [exC_eq, e1, e2, e3, e4, e5, e6, e7, e8, e9, callG_eq, go_sem, ↓reduceIte, len_eq0, len_eq1, len_eq2, len_eq3, len_gt0]
    repeat' first
      | apply And.intro
      | intro _
      | (refine hX.call ?_ ?_
         · simp only [go_sem]; done
         try simp only [exC_eq, e1, e2, e3, e4, e5, e6, e7, e8, e9, callG_eq, go_sem, ↓reduceIte, len_eq0, len_eq1, len_eq2, len_eq3, len_gt0])
      | (refine hL.call ?_ ?_
         · simp only [go_sem]; done
         try simp only [exC_eq, e1, e2, e3, e4, e5, e6, e7, e8, e9, callG_eq, go_sem, ↓reduceIte, len_eq0, len_eq1, len_eq2, len_eq3, len_gt0])
      | (refine hP.call ?_ ?_
         · simp only [go_sem]; done
         try simp only [exC_eq, e1, e2, e3, e4, e5, e6, e7, e8, e9, callG_eq, go_sem, ↓reduceIte, len_eq0, len_eq1, len_eq2, len_eq3, len_gt0])
      | (refine hBB.call ?_ ?_
         · simp only [go_sem]; done
         try simp only [exC_eq, e1, e2, e3, e4, e5, e6, e7, e8, e9, callG_eq, go_sem, ↓reduceIte, len_eq0, len_eq1, len_eq2, len_eq3, len_gt0])
      | (refine hV.call ?_ ?_
         · simp only [go_sem]; done
         try simp only [exC_eq, e1, e2, e3, e4, e5, e6, e7, e8, e9, callG_eq, go_sem, ↓reduceIte, len_eq0, len_eq1, len_eq2, len_eq3, len_gt0])
      | (refine hC.call ?_ ?_
         · simp only [go_sem]; done
         try simp only [exC_eq, e1, e2, e3, e4, e5, e6, e7, e8, e9, callG_eq, go_sem, ↓reduceIte, len_eq0, len_eq1, len_eq2, len_eq3, len_gt0])
      | fail
    all_goals (try clear hX hL hP hBB hV hC; simp_all [Bool.and_assoc])
  · have e1 : ((3 : Int) == 1) = false := by decide
    have e2 : ((3 : Int) == 2) = false := by decide
    have e3 : ((3 : Int) == 3) = true := by decide
    have e4 : ((3 : Int) == 4) = false := by decide
    have e5 : ((3 : Int) == 5) = false := by decide
    have e6 : ((3 : Int) == 6) = false := by decide
    have e7 : ((3 : Int) == 7) = false := by decide
    have e8 : ((3 : Int) == 8) = false := by decide
    have e9 : ((3 : Int) != 3) = false := by decide
    simp only [exC_eq, e1, e2, e3, e4, e5, e6, e7, e8, e9, callG_eq, go_sem, ↓reduceIte, len_eq0, len_eq1, len_eq2, len_eq3, len_gt0]
    repeat' first
      | apply And.intro
      | intro _
      | (refine hX.call ?_ ?_
         · simp only [go_sem]; done
         try simp only [exC_eq, e1, e2, e3, e4, e5, e6, e7, e8, e9, callG_eq, go_sem, ↓reduceIte, len_eq0, len_eq1, len_eq2, len_eq3, len_gt0])
      | (refine hL.call ?_ ?_
         · simp only [go_sem]; done
         try simp only [exC_eq, e1, e2, e3, e4, e5, e6, e7, e8, e9, callG_eq, go_sem, ↓reduceIte, len_eq0, len_eq1, len_eq2, len_eq3, len_gt0])
      | (refine hP.call ?_ ?_
         · simp only [go_sem]; done
         try simp only [exC_eq, e1, e2, e3, e4, e5, e6, e7, e8, e9, callG_eq, go_sem, ↓reduceIte, len_eq0, len_eq1, len_eq2, len_eq3, len_gt0])
      | (refine hBB.call ?_ ?_
         · simp only [go_sem]; done
         try simp only [exC_eq, e1, e2, e3, e4, e5, e6, e7, e8, e9, callG_eq, go_sem, ↓reduceIte, len_eq0, len_eq1, len_eq2, len_eq3, len_gt0])
      | (refine hV.call ?_ ?_
         · simp only [go_sem]; done
         try simp only [exC_eq, e1, e2, e3, e4, e5, e6, e7, e8, e9, callG_eq, go_sem, ↓reduceIte, len_eq0, len_eq1, len_eq2, len_eq3, len_gt0])
      | (refine hC.call ?_ ?_
         · simp only [go_sem]; done
         try simp only [exC_eq, e1, e2, e3, e4, e5, e6, e7, e8, e9, callG_eq, go_sem, ↓reduceIte, len_eq0, len_eq1, len_eq2, len_eq3, len_gt0])
      | fail
    all_goals (try clear hX hL hP hBB hV hC; simp_all [Bool.and_assoc])
  · have e1 : ((4 : Int) == 1) = false := by decide
    have e2 : ((4 : Int) == 2) = false := by decide
    have e3 : ((4 : Int) == 3) = false := by decide
    have e4 : ((4 : Int) == 4) = true := by decide
    have e5 : ((4 : Int) == 5) = false := by decide
    have e6 : ((4 : Int) == 6) = false := by decide
    have e7 : ((4 : Int) == 7) = false := by decide
    have e8 : ((4 : Int) == 8) = false := by decide
    have e9 : ((4 : Int) != 3) = true := by decide
    simp only [exC_eq, e1, e2, e3, e4, e5, e6, e7, e8, e9, callG_eq, go_sem, ↓reduceIte, len_eq0, len_eq1, len_eq2, len_eq3, len_gt0]
    repeat' first
      | apply And.intro
      | intro _
      | (refine hX.call ?_ ?_
         · simp only [go_sem]; done
         try simp only [exC_eq, e1, e2, e3, e4, e5, e6, e7, e8, e9, callG_eq, go_sem, ↓reduceIte, len_eq0, len_eq1, len_eq2, len_eq3, len_gt0])
      | (refine hL.call ?_ ?_
         · simp only [go_sem]; done
         try simp only [exC_eq, e1, e2, e3, e4, e5, e6, e7, e8, e9, callG_eq, go_sem, ↓reduceIte, len_eq0, len_eq1, len_eq2, len_eq3, len_gt0])
      | (refine hP.call ?_ ?_
         · simp only [go_sem]; done
         try simp only [exC_eq, e1, e2, e3, e4, e5, e6, e7, e8, e9, callG_eq, go_sem, ↓reduceIte, len_eq0, len_eq1, len_eq2, len_eq3, len_gt0])
      | (refine hBB.call ?_ ?_
         · simp only [go_sem]; done
         try simp only [exC_eq, e1, e2, e3, e4, e5, e6, e7, e8, e9, callG_eq, go_sem, ↓reduceIte, len_eq0, len_eq1, len_eq2, len_eq3, len_gt0])
      | (refine hV.call ?_ ?_
         · simp only [go_sem]; done
         try simp only [exC_eq, e1, e2, e3, e4, e5, e6, e7, e8, e9, callG_eq, go_sem, ↓reduceIte, len_eq0, len_eq1, len_eq2, len_eq3, len_gt0])
      | (refine hC.call ?_ ?_
         · simp only [go_sem]; done
         try simp only [exC_eq, e1, e2, e3, e4, e5, e6, e7, e8, e9, callG_eq, go_sem, ↓reduceIte, len_eq0, len_eq1, len_eq2, len_eq3, len_gt0])
      | fail
    all_goals (try clear hX hL hP hBB hV hC; simp_all [Bool.and_assoc])
  · have e1 : ((5 : Int) == 1) = false := by decide
    have e2 : ((5 : Int) == 2) = false := by decide
    have e3 : ((5 : Int) == 3) = false := by decide
    have e4 : ((5 : Int) == 4) = false := by decide
    have e5 : ((5 : Int) == 5) = true := by decide
    have e6 : ((5 : Int) == 6) = false := by decide
    have e7 : ((5 : Int) == 7) = false := by decide
    have e8 : ((5 : Int) == 8) = false := by decide
    have e9 : ((5 : Int) != 3) = true := by decide
    simp only [exC_eq, e1, e2, e3, e4, e5, e6, e7, e8, e9, callG_eq, go_sem, ↓reduceIte, len_eq0, len_eq1, len_eq2, len_eq3, len_gt0]
    repeat' first
      | apply And.intro
      | intro _
      | (refine hX.call ?_ ?_
         · simp only [go_sem]; done
         try simp only [exC_eq, e1, e2, e3, e4, e5, e6, e7, e8, e9, callG_eq, go_sem, ↓reduceIte, len_eq0, len_eq1, len_eq2, len_eq3, len_gt0])
      | (refine hL.call ?_ ?_
         · simp only [go_sem]; done
         try simp only [exC_eq, e1, e2, e3, e4, e5, e6, e7, e8, e9, callG_eq, go_sem, ↓reduceIte, len_eq0, len_eq1, len_eq2, len_eq3, len_gt0])
      | (refine hP.call ?_ ?_
         · simp only [go_sem]; done
         try simp only [exC_eq, e1, e2, e3, e4, e5, e6, e7, e8, e9, callG_eq, go_sem, ↓reduceIte, len_eq0, len_eq1, len_eq2, len_eq3, len_gt0])
      | (refine hBB.call ?_ ?_
         · simp only [go_sem]; done
         try simp only [exC_eq, e1, e2, e3, e4, e5, e6, e7, e8, e9, callG_eq, go_sem, ↓reduceIte, len_eq0, len_eq1, len_eq2, len_eq3, len_gt0])
      | (refine hV.call ?_ ?_
         · simp only [go_sem]; done
         try simp only [exC_eq, e1, e2, e3, e4, e5, e6, e7, e8, e9, callG_eq, go_sem, ↓reduceIte, len_eq0, len_eq1, len_eq2, len_eq3, len_gt0])
      | (refine hC.call ?_ ?_
         · simp only [go_sem]; done
         try simp only [exC_eq, e1, e2, e3, e4, e5, e6, e7, e8, e9, callG_eq, go_sem, ↓reduceIte, len_eq0, len_eq1, len_eq2, len_eq3, len_gt0])
      | fail
    all_goals (try clear hX hL hP hBB hV hC; simp_all [Bool.and_assoc])
  · have e1 : ((6 : Int) == 1) = false := by decide
    have e2 : ((6 : Int) == 2) = false := by decide
    have e3 : ((6 : Int) == 3) = false := by decide
    have e4 : ((6 : Int) == 4) = false := by decide
    have e5 : ((6 : Int) == 5) = false := by decide
    have e6 : ((6 : Int) == 6) = true := by decide
    have e7 : ((6 : Int) == 7) = false := by decide
    have e8 : ((6 : Int) == 8) = false := by decide
    have e9 : ((6 : Int) != 3) = true := by decide
    simp only [exC_eq, e1, e2, e3, e4, e5, e6, e7, e8, e9, callG_eq, go_sem, ↓reduceIte, len_eq0, len_eq1, len_eq2, len_eq3, len_gt0]
    repeat' first
      | apply And.intro
      | intro _
      | (refine hX.call ?_ ?_
         · simp only [go_sem]; done
         try simp only [exC_eq, e1, e2, e3, e4, e5, e6, e7, e8, e9, callG_eq, go_sem, ↓reduceIte, len_eq0, len_eq1, len_eq2, len_eq3, len_gt0])
      | (refine hL.call ?_ ?_
         · simp only [go_sem]; done
         try simp only [exC_eq, e1, e2, e3, e4, e5, e6, e7, e8, e9, callG_eq, go_sem, ↓reduceIte, len_eq0, len_eq1, len_eq2, len_eq3, len_gt0])
      | (refine hP.call ?_ ?_
         · simp only [go_sem]; done
         try simp only [exC_eq, e1, e2, e3, e4, e5, e6, e7, e8, e9, callG_eq, go_sem, ↓reduceIte, len_eq0, len_eq1, len_eq2, len_eq3, len_gt0])
      | (refine hBB.call ?_ ?_
         · simp only [go_sem]; done
         try simp only [exC_eq, e1, e2, e3, e4, e5, e6, e7, e8, e9, callG_eq, go_sem, ↓reduceIte, len_eq0, len_eq1, len_eq2, len_eq3, len_gt0])
      | (refine hV.call ?_ ?_
         · simp only [go_sem]; done
         try simp only [exC_eq, e1, e2, e3, e4, e5, e6, e7, e8, e9, callG_eq, go_sem, ↓reduceIte, len_eq0, len_eq1, len_eq2, len_eq3, len_gt0])
      | (refine hC.call ?_ ?_
         · simp only [go_sem]; done
         try simp only [exC_eq, e1, e2, e3, e4, e5, e6, e7, e8, e9, callG_eq, go_sem, ↓reduceIte, len_eq0, len_eq1, len_eq2, len_eq3, len_gt0])
      | fail
    all_goals (try clear hX hL hP hBB hV hC; simp_all [Bool.and_assoc])
  · have e1 : ((7 : Int) == 1) = false := by decide
    have e2 : ((7 : Int) == 2) = false := by decide
    have e3 : ((7 : Int) == 3) = false := by decide
    have e4 : ((7 : Int) == 4) = false := by decide
    have e5 : ((7 : Int) == 5) = false := by decide
    have e6 : ((7 : Int) == 6) = false := by decide
    have e7 : ((7 : Int) == 7) = true := by decide
    have e8 : ((7 : Int) == 8) = false := by decide
    have e9 : ((7 : Int) != 3) = true := by decide
    simp only [exC_eq, e1, e2, e3, e4, e5, e6, e7, e8, e9, callG_eq, go_sem, ↓reduceIte, len_eq0, len_eq1, len_eq2, len_eq3, len_gt0]
    repeat' first
      | apply And.intro
      | intro _
      | (refine hX.call ?_ ?_
         · simp only [go_sem]; done
         try simp only [exC_eq, e1, e2, e3, e4, e5, e6, e7, e8, e9, callG_eq, go_sem, ↓reduceIte, len_eq0, len_eq1, len_eq2, len_eq3, len_gt0])
      | (refine hL.call ?_ ?_
         · simp only [go_sem]; done
         try simp only [exC_eq, e1, e2, e3, e4, e5, e6, e7, e8, e9, callG_eq, go_sem, ↓reduceIte, len_eq0, len_eq1, len_eq2, len_eq3, len_gt0])
      | (refine hP.call ?_ ?_
         · simp only [go_sem]; done
         try simp only [exC_eq, e1, e2, e3, e4, e5, e6, e7, e8, e9, callG_eq, go_sem, ↓reduceIte, len_eq0, len_eq1, len_eq2, len_eq3, len_gt0])
      | (refine hBB.call ?_ ?_
         · simp only [go_sem]; done
         try simp only [exC_eq, e1, e2, e3, e4, e5, e6, e7, e8, e9, callG_eq, go_sem, ↓reduceIte, len_eq0, len_eq1, len_eq2, len_eq3, len_gt0])
      | (refine hV.call ?_ ?_
         · simp only [go_sem]; done
         try simp only [exC_eq, e1, e2, e3, e4, e5, e6, e7, e8, e9, callG_eq, go_sem, ↓reduceIte, len_eq0, len_eq1, len_eq2, len_eq3, len_gt0])
      | (refine hC.call ?_ ?_
         · simp only [go_sem]; done
         try simp only [exC_eq, e1, e2, e3, e4, e5, e6, e7, e8, e9, callG_eq, go_sem, ↓reduceIte, len_eq0, len_eq1, len_eq2, len_eq3, len_gt0])
      | fail
    all_goals (try clear hX hL hP hBB hV hC; simp_all [Bool.and_assoc])
  · have e1 : ((8 : Int) == 1) = false := by decide
    have e2 : ((8 : Int) == 2) = false := by decide
    have e3 : ((8 : Int) == 3) = false := by decide
    have e4 : ((8 : Int) == 4) = false := by decide
    have e5 : ((8 : Int) == 5) = false := by decide
    have e6 : ((8 : Int) == 6) = false := by decide
    have e7 : ((8 : Int) == 7) = false := by decide
    have e8 : ((8 : Int) == 8) = true := by decide
    have e9 : ((8 : Int) != 3) = true := by decide
    simp only [exC_eq, e1, e2, e3, e4, e5, e6, e7, e8, e9, callG_eq, go_sem, ↓reduceIte, len_eq0, len_eq1, len_eq2, len_eq3, len_gt0]
    repeat' first
      | apply And.intro
      | intro _
      | (refine hX.call ?_ ?_
         · simp only [go_sem]; done
         try simp only [exC_eq, e1, e2, e3, e4, e5, e6, e7, e8, e9, callG_eq, go_sem, ↓reduceIte, len_eq0, len_eq1, len_eq2, len_eq3, len_gt0])
      | (refine hL.call ?_ ?_
         · simp only [go_sem]; done
         try simp only [exC_eq, e1, e2, e3, e4, e5, e6, e7, e8, e9, callG_eq, go_sem, ↓reduceIte, len_eq0, len_eq1, len_eq2, len_eq3, len_gt0])
      | (refine hP.call ?_ ?_
         · simp only [go_sem]; done
         try simp only [exC_eq, e1, e2, e3, e4, e5, e6, e7, e8, e9, callG_eq, go_sem, ↓reduceIte, len_eq0, len_eq1, len_eq2, len_eq3, len_gt0])
      | (refine hBB.call ?_ ?_
         · simp only [go_sem]; done
         try simp only [exC_eq, e1, e2, e3, e4, e5, e6, e7, e8, e9, callG_eq, go_sem, ↓reduceIte, len_eq0, len_eq1, len_eq2, len_eq3, len_gt0])
      | (refine hV.call ?_ ?_
         · simp only [go_sem]; done
         try simp only [exC_eq, e1, e2, e3, e4, e5, e6, e7, e8, e9, callG_eq, go_sem, ↓reduceIte, len_eq0, len_eq1, len_eq2, len_eq3, len_gt0])
      | (refine hC.call ?_ ?_
         · simp only [go_sem]; done
         try simp only [exC_eq, e1, e2, e3, e4, e5, e6, e7, e8, e9, callG_eq, go_sem, ↓reduceIte, len_eq0, len_eq1, len_eq2, len_eq3, len_gt0])
      | fail
    all_goals (try clear hX hL hP hBB hV hC; simp_all [Bool.and_assoc])
  · have e1 : (k == 1) = false := by simpa using h1
    have e2 : (k == 2) = false := by simpa using h2
    have e3 : (k == 3) = false := by simpa using h3
    have e4 : (k == 4) = false := by simpa using h4
    have e5 : (k == 5) = false := by simpa using h5
    have e6 : (k == 6) = false := by simpa using h6
    have e7 : (k == 7) = false := by simpa using h7
    have e8 : (k == 8) = false := by simpa using h8
    have e9 : (k != 3) = true := by simpa using h3
    simp only [exC_eq, e1, e2, e3, e4, e5, e6, e7, e8, e9, callG_eq, go_sem, ↓reduceIte, len_eq0, len_eq1, len_eq2, len_eq3, len_gt0]
    repeat' first
      | apply And.intro
      | intro _
      | (refine hX.call ?_ ?_
         · simp only [go_sem]; done
         try simp only [exC_eq, e1, e2, e3, e4, e5, e6, e7, e8, e9, callG_eq, go_sem, ↓reduceIte, len_eq0, len_eq1, len_eq2, len_eq3, len_gt0])
      | (refine hL.call ?_ ?_
         · simp only [go_sem]; done
         try simp only [exC_eq, e1, e2, e3, e4, e5, e6, e7, e8, e9, callG_eq, go_sem, ↓reduceIte, len_eq0, len_eq1, len_eq2, len_eq3, len_gt0])
      | (refine hP.call ?_ ?_
         · simp only [go_sem]; done
         try simp only [exC_eq, e1, e2, e3, e4, e5, e6, e7, e8, e9, callG_eq, go_sem, ↓reduceIte, len_eq0, len_eq1, len_eq2, len_eq3, len_gt0])
      | (refine hBB.call ?_ ?_
         · simp only [go_sem]; done
         try simp only [exC_eq, e1, e2, e3, e4, e5, e6, e7, e8, e9, callG_eq, go_sem, ↓reduceIte, len_eq0, len_eq1, len_eq2, len_eq3, len_gt0])
      | (refine hV.call ?_ ?_
         · simp only [go_sem]; done
         try simp only [exC_eq, e1, e2, e3, e4, e5, e6, e7, e8, e9, callG_eq, go_sem, ↓reduceIte, len_eq0, len_eq1, len_eq2, len_eq3, len_gt0])
      | (refine hC.call ?_ ?_
         · simp only [go_sem]; done
         try simp only [exC_eq, e1, e2, e3, e4, e5, e6, e7, e8, e9, callG_eq, go_sem, ↓reduceIte, len_eq0, len_eq1, len_eq2, len_eq3, len_gt0])
      | fail
    all_goals (try clear hX hL hP hBB hV hC; simp_all [Bool.and_assoc])
theorem all_P : ∀ n : Nat, PE n ∧ PA n ∧ PR n ∧ PB n := by
  have z1 : PE 0 := by rintro ⟨⟩ h; simp at h
  have z2 : PA 0 := by rintro ⟨⟩ h; simp at h
  have z3 : PR 0 := by intro l h; cases l <;> simp at h
  have z4 : PB 0 := by intro l h; cases l <;> simp at h
  intro n
  induction n with
  | zero => exact ⟨z1, z2, z3, z4⟩
  | succ n ih => exact ⟨exP ih.1 ih.2.1 ih.2.2.2, alP ih.2.2.1, rhP ih.1, biP ih.2.2.1⟩
theorem showEx_P (x : Ex) (h : ExB x) : Pu 24 [.agg (exC x)] (.bool (rEx x)) := (all_P _).1 x (Nat.le_refl _) h
theorem showRhs_P (l : List Rh) (h : LB 168 RhB l) : Pu 71 [.sl false 10 (l.map rhC)] (.bool (rRs l)) := (all_P _).2.2.1 l (Nat.le_refl _) h
theorem showBinds_P (l : List Bi) (h : LB 56 BiB l) : Pu 44 [.sl false 4 (l.map biC)] (.bool (rBs l)) := (all_P _).2.2.2 l (Nat.le_refl _) h
end Go.Proofs.YtoaohapbbnpbeaaGreat.Vm
namespace Go.Proofs.YtoaohapbbnpbeaaGreat.Vm
open Go Lx
set_option linter.unusedSimpArgs false

def QE (n : Nat) : Prop := ∀ x : Ex, SizeOf.sizeOf x ≤ n → ExB x → Pu 26 [.agg (exC x)] (.bool (rEx x))
def QR (n : Nat) : Prop := ∀ l : List Rh, SizeOf.sizeOf l ≤ n → LB 168 RhB l → Pu 52 [.sl false 10 (l.map rhC)] (.bool (rRs l))
def QB (n : Nat) : Prop := ∀ l : List Bi, SizeOf.sizeOf l ≤ n → LB 56 BiB l → Pu 50 [.sl false 4 (l.map biC)] (.bool (rBs l))
theorem rExsL {l : List Ex} (hl : l.length < 4611686018427387903) (h : ∀ x ∈ l, Pu 26 [.agg (exC x)] (.bool (rEx x))) : Pu 47 [.sl false 9 (l.map exC)] (.bool (l.all rEx)) := by
  refine ⟨?_, rfl⟩
  refine T.of0 mix c_r07_rightExprs rfl ?_
  unfold v_r07_rightExprs
  simp only [go_sem, ↓reduceIte]
  refine WP.range (n := l.length) (fun i E F => l.all rEx = (l.drop i).all rEx ∧ ∃ ex, E = ⟨(0, .sl false 9 (l.map exC)) :: (3, .int .i64 i) :: ex, .u⟩) ⟨rfl, _, rfl⟩ ?_
  rintro i E F hi ⟨hinv, ex, rfl⟩
  have hw := inc64 (i := i) (by omega)
  simp only [go_sem, ↓reduceIte, ↓ex_map, ↓run_addW, hw, Int.toNat_natCast, lt_len]
  refine ⟨fun hlt => ?_, fun hge => by rw [hinv, List.drop_of_length_le (by omega)]; rfl⟩
  obtain ⟨x, hg, hm⟩ := getL hlt
  have hT := h x hm
  rw [drop_get hg, List.all_cons] at hinv
  simp only [go_sem, ↓reduceIte, ↓ex_map, ↓run_addW, hw, Int.toNat_natCast, lt_len, hg, Nat.le_refl]
  refine ⟨_, _, hT.at (by simp only [go_sem]) _, ?_⟩
  simp only [go_sem, ↓reduceIte, ↓run_addW, hw, Bool.not_eq_true', Bool.not_eq_false']
  refine ⟨fun e => by rw [hinv, e]; rfl, fun e => ⟨hlt, by simp only [Bool.not_eq_false] at e; rw [hinv, e]; rfl, _, rfl⟩⟩
theorem rhas_P (x : Ex) (a b c d : Int) : Pu 48 [.agg (exC x), .int .i64 a, .int .i64 b, .int .i64 c, .int .i64 d] (.bool (match x with | .mk _ _ _ ps xs al bs _ _ => ((ps.length : Int) == a && ((xs.length : Int) == b && ((al.length : Int) == c && ((bs.length : Int) == d)))))) := by
  obtain ⟨k, s, m, ps, xs, al, bs, l, co⟩ := x
  refine ⟨?_, by simp only [idsL, idsV, exC_ids, Bool.and_self]⟩
  refine T.of0 mix c_r07_has rfl ?_
  unfold v_r07_has
  simp only [exC_eq, go_sem, ↓reduceIte]
  generalize ((ps.length : Int) == a) = w1
  generalize ((xs.length : Int) == b) = w2
  generalize ((al.length : Int) == c) = w3
  generalize ((bs.length : Int) == d) = w4
  cases w1 <;> cases w2 <;> cases w3 <;> simp
def okR (n : Nat) (r : Rh) : Bool := !(decide (rhN' r > 1)) && (!(rhN' r == 0 && decide (n > 1)) && rRh r)
theorem okR_all {l : List Rh} : rRs l = (!l.isEmpty && l.all (okR l.length)) := by
  unfold rRs
  by_cases h0 : l = []
  · subst h0; rfl
  have hlen : 0 < l.length := List.length_pos_iff.2 h0
  rw [Bool.and_assoc]
  congr 1
  rw [Bool.eq_iff_iff]
  simp only [Bool.and_eq_true, List.all_eq_true, gOk, okR, Bool.or_eq_true, beq_iff_eq, Bool.not_eq_true', decide_eq_false_iff_not]
  generalize l.length = n at *
  constructor
  · rintro ⟨h1, h2⟩ r hr
    have h3 := h1 r hr
    refine ⟨by omega, ?_, h2 r hr⟩
    cases h4 : (rhN' r == 0 && decide (n > 1)) with
    | false => rfl
    | true => simp at h4; omega
  · intro h
    refine ⟨fun r hr => ?_, fun r hr => (h r hr).2.2⟩
    obtain ⟨h1, h2, _⟩ := h r hr
    have : ¬ (rhN' r = 0 ∧ n > 1) := by
      rintro ⟨a, b⟩; simp [a, b] at h2
    omega
theorem rrhP {n : Nat} (h : QE n) : QR (n + 1) := by
  intro l hn hB
  refine ⟨?_, rfl⟩
  refine T.of0 mix c_r07_rightRhs rfl ?_
  unfold v_r07_rightRhs
  rw [okR_all]
  have hb := hB.lt
  generalize hok : okR l.length = ok
  simp only [go_sem, ↓reduceIte]
  refine WP.range (n := l.length) (fun i E F => l.all ok = (l.drop i).all ok ∧ ∃ ex, E = ⟨(0, .sl false 10 (l.map rhC)) :: (3, .int .i64 i) :: ex, .u⟩) ⟨rfl, _, rfl⟩ ?_
  rintro i E F hi ⟨hinv, ex, rfl⟩
  have hw := inc64 (i := i) (by omega)
  simp only [go_sem, ↓reduceIte, ↓ex_map, ↓run_addW, hw, Int.toNat_natCast, lt_len, len_gt0]
  refine ⟨fun hlt => ?_, fun hge => by rw [hinv, List.drop_of_length_le (by omega)]; cases l <;> simp⟩
  obtain ⟨⟨g, b⟩, hg, hm⟩ := getL hlt
  have hsz := List.sizeOf_lt_of_mem hm
  simp only [Rh.mk.sizeOf_spec] at hsz
  cases hB.2 _ hm with | mk b1 b2 b3 =>
  have hG := rExsL (l := g) (by omega) fun x hx => h x (by have := List.sizeOf_lt_of_mem hx; omega) (b2 x hx)
  have hT := h b (by omega) b3
  have hne : l.isEmpty = false := by cases l <;> simp at hlt ⊢
  rw [drop_get hg, List.all_cons, ← hok] at hinv
  rw [hok] at hinv
  rw [show ok (Rh.mk g b) = okR l.length (.mk g b) by rw [hok]] at hinv
  unfold okR at hinv
  simp only [rhN', rRh_eq] at hinv
  have e1 : (((g.length : Nat) : Int) > 1) = (g.length > 1) := by simp; omega
  have e2 : (((l.length : Nat) : Int) > 1) = (l.length > 1) := by simp; omega
  have e3 : (((g.length : Nat) : Int) == 0) = (g.length == 0) := by rw [Bool.eq_iff_iff]; simp
  generalize g.all rEx = w1 at *
  generalize rEx b = w2 at *
  generalize (l.drop (i + 1)).all ok = w3 at *
  generalize (g.length == 0) = w4 at *
  rw [hne, Bool.not_false, Bool.true_and]
  simp only [rhC_eq, callG_eq, go_sem, ↓reduceIte, ↓ex_map, ↓run_addW, hw, Int.toNat_natCast, lt_len, hg, e1, e2, e3]
  repeat' first
    | apply And.intro
    | intro _
    | (refine hG.call ?_ ?_
       · simp only [go_sem]; done
       try simp only [rhC_eq, callG_eq, go_sem, ↓reduceIte, ↓ex_map, ↓run_addW, hw, Int.toNat_natCast, lt_len, hg, e1, e2, e3])
    | (refine hT.call ?_ ?_
       · simp only [go_sem]; done
       try simp only [rhC_eq, callG_eq, go_sem, ↓reduceIte, ↓ex_map, ↓run_addW, hw, Int.toNat_natCast, lt_len, hg, e1, e2, e3])
    | fail
  all_goals (try clear hG hT; first | exact ⟨_, rfl⟩ | exact hlt | (rw [hinv]; clear hinv h hn hB hg hm b2 b3 hok; simp_all))
theorem rbiP {n : Nat} (h : QR n) : QB (n + 1) := by
  intro l hn hB
  refine ⟨?_, rfl⟩
  refine T.of0 mix c_r07_rightBinds rfl ?_
  unfold v_r07_rightBinds
  have hlt := hB.lt
  simp only [go_sem, ↓reduceIte]
  refine WP.range (n := l.length) (fun i E F => rBs l = prevI l i ∧ ∃ ex, E = ⟨(0, .sl false 4 (l.map biC)) :: (3, .int .i64 i) :: ex, .u⟩) ⟨prevI_0 l, _, rfl⟩ ?_
  rintro i E F hi ⟨hinv, ex, rfl⟩
  have hw := inc64 (i := i) (by omega)
  simp only [go_sem, ↓reduceIte, ↓ex_map, ↓run_addW, ↓run_subW, hw, Int.toNat_natCast, lt_len]
  refine ⟨fun hlt => ?_, fun hge => by rw [hinv, prevI_end (by omega)]⟩
  obtain ⟨⟨s, cs, a, b⟩, hg, hm⟩ := getL hlt
  have hsz := List.sizeOf_lt_of_mem hm
  simp only [Bi.mk.sizeOf_spec] at hsz
  cases hB.2 _ hm with | mk b1 b2 =>
  have hV := rNamed_P s
  generalize hKK : seqW _ _ = KK
  have hstop : ∀ {d : List (Nat × V)}, rBs l = false → getE d .u 2 = .bool false → KK .ret ⟨d, .u⟩ F := by
    intro d h1 h2
    rw [← hKK]
    simp only [go_sem, ↓reduceIte, h2, h1]
  have hnext : ∀ {d : List (Nat × V)}, rBs l = prevI l (i + 1) → KK .normal ⟨(0, .sl false 4 (l.map biC)) :: (3, .int .i64 ((i + 1 : Nat) : Int)) :: d, .u⟩ F := by
    intro d h1
    rw [← hKK]
    simp only [go_sem, ↓reduceIte]
    exact ⟨hlt, h1, _, rfl⟩
  have nonneg : (0 : Int) ≤ 0 := Int.le_refl _
  by_cases h0 : i = 0
  · subst h0
    rw [prevI_first hg, rBi_eq] at hinv
    have hw9 : IntKind.i64.wrap (0 + 1) = ((0 + 1 : Nat) : Int) := by decide
    simp only [clC_eq, biC_eq, callG_eq, go_sem, ↓reduceIte, ↓ex_map, ↓run_addW, ↓run_subW, hw, Int.toNat_natCast, lt_len, hg, len_eq0, cast0, show ¬ ((0 : Int) > 0) by decide, Int.toNat_zero, nonneg]
    refine hV.call (by simp only [go_sem]) ?_
    simp only [clC_eq, biC_eq, callG_eq, go_sem, ↓reduceIte, ↓ex_map, ↓run_addW, ↓run_subW, hw, Int.toNat_natCast, lt_len, hg, len_eq0, cast0, show ¬ ((0 : Int) > 0) by decide, Int.toNat_zero, nonneg]
    refine ⟨fun e => ⟨fun e2 => ?_, fun e2 => hstop (by rw [hinv]; simp only [Bool.not_eq_false] at e2; simp [e2]) rfl⟩, fun e => hstop (by rw [hinv]; simp only [Bool.not_eq_false, Bool.not_eq_true'] at e; simp [e]) rfl⟩
    simp only [Bool.not_eq_false'] at e
    rw [e, e2] at hinv
    simp only [Bool.not_false, Bool.true_and] at hinv
    have hbc : cs.length < 4611686018427387903 := by omega
    refine WP.range (n := cs.length) (fun j E G => G = F ∧ rBs l = (((cs.drop j).all rCl) && prevI l (0 + 1)) ∧ ∃ ex, E = ⟨(0, .sl false 4 (l.map biC)) :: (3, .int .i64 0) :: (4, .int .i64 j) :: ex, .u⟩) ⟨rfl, hinv, _, rfl⟩ ?_
    rintro j E G hj ⟨rfl, hin2, ex2, rfl⟩
    have hw2 := inc64 (i := j) (by omega)
    simp only [clC_eq, biC_eq, callG_eq, go_sem, ↓reduceIte, ↓ex_map, ↓run_addW, ↓run_subW, hw, Int.toNat_natCast, lt_len, hg, len_eq0, hw2, hw9, Int.toNat_zero, nonneg]
    refine ⟨fun hlj => ?_, fun hgj => ?_⟩
    · obtain ⟨⟨ps, rs⟩, kg, km⟩ := getL hlj
      have hsz2 := List.sizeOf_lt_of_mem km
      simp only [Cl.mk.sizeOf_spec] at hsz2
      cases b2 _ km with | mk c1 c2 c3 c4 =>
      rw [drop_get kg, List.all_cons, rCl_eq] at hin2
      have hA := rPatsL (l := ps) (by omega) fun x hx => rPat_P _ x (Nat.le_refl _) (c2 x hx)
      have hR := h rs (by omega) ⟨c3, c4⟩
      generalize ps.all rPa = w1 at *
      generalize rRs rs = w2 at *
      generalize (cs.drop (j + 1)).all rCl = w3 at *
      simp only [clC_eq, biC_eq, callG_eq, go_sem, ↓reduceIte, ↓ex_map, ↓run_addW, ↓run_subW, hw, Int.toNat_natCast, lt_len, hg, len_eq0, hw2, kg, Int.toNat_zero, nonneg]
      repeat' first
        | apply And.intro
        | intro _
        | (refine hA.call ?_ ?_
           · simp only [go_sem]; done
           try simp only [clC_eq, biC_eq, callG_eq, go_sem, ↓reduceIte, ↓ex_map, ↓run_addW, ↓run_subW, hw, Int.toNat_natCast, lt_len, hg, len_eq0, hw2, kg, Int.toNat_zero, nonneg])
        | (refine hR.call ?_ ?_
           · simp only [go_sem]; done
           try simp only [clC_eq, biC_eq, callG_eq, go_sem, ↓reduceIte, ↓ex_map, ↓run_addW, ↓run_subW, hw, Int.toNat_natCast, lt_len, hg, len_eq0, hw2, kg, Int.toNat_zero, nonneg])
        | fail
      all_goals first | exact ⟨_, rfl⟩ | exact hlj | (refine hstop ?_ rfl; rw [hin2]; clear hin2 hinv h hn hB hg hm b2 c2 c4 km kg; simp_all) | (rw [hin2]; clear hin2 hinv h hn hB hg hm b2 c2 c4 km kg; simp_all)
    · rw [List.drop_of_length_le (by omega)] at hin2
      simp only [List.all_nil, Bool.true_and] at hin2
      exact hnext (d := []) hin2
  · obtain ⟨k, rfl⟩ : ∃ k, i = k + 1 := ⟨i - 1, by omega⟩
    obtain ⟨⟨s', cs', a', b'⟩, hg', hm'⟩ := getL (show k < l.length by omega)
    rw [prevI_next hg' hg, rBi_eq] at hinv
    simp only [biN'] at hinv
    have hw1 : IntKind.i64.wrap (((k + 1 : Nat) : Int) - 1) = (k : Int) := by rw [wrap64 (by omega) (by omega)]; omega
    have hgt : (((k + 1 : Nat) : Int) > 0) = True := by simp
    have hge : (0 ≤ (k : Int)) = True := by simp
    have hw9 := hw
    simp only [clC_eq, biC_eq, callG_eq, go_sem, ↓reduceIte, ↓ex_map, ↓run_addW, ↓run_subW, hw, Int.toNat_natCast, lt_len, hg, len_eq0, hg', hw1, hgt, hge]
    refine hV.call (by simp only [go_sem]) ?_
    simp only [clC_eq, biC_eq, callG_eq, go_sem, ↓reduceIte, ↓ex_map, ↓run_addW, ↓run_subW, hw, Int.toNat_natCast, lt_len, hg, len_eq0, hg', hw1, hgt, hge]
    refine ⟨fun e => ⟨fun e2 => ⟨fun e3 => hstop (by rw [hinv]; have := eq_of_beq e3; simp [this]) rfl, fun e3 => ?_⟩, fun e2 => hstop (by rw [hinv]; simp only [Bool.not_eq_false] at e2; simp [e2]) rfl⟩, fun e => hstop (by rw [hinv]; simp only [Bool.not_eq_false, Bool.not_eq_true'] at e; simp [e]) rfl⟩
    simp only [Bool.not_eq_false'] at e
    have e3' : (s' == s) = false := by rw [beq_eq_false_iff_ne] at e3 ⊢; exact fun h => e3 h.symm
    rw [e, e2, e3'] at hinv
    simp only [Bool.not_false, Bool.true_and] at hinv
    have hbc : cs.length < 4611686018427387903 := by omega
    refine WP.range (n := cs.length) (fun j E G => G = F ∧ rBs l = (((cs.drop j).all rCl) && prevI l ((k + 1) + 1)) ∧ ∃ ex, E = ⟨(0, .sl false 4 (l.map biC)) :: (3, .int .i64 ((k + 1 : Nat) : Int)) :: (4, .int .i64 j) :: ex, .u⟩) ⟨rfl, hinv, _, rfl⟩ ?_
    rintro j E G hj ⟨rfl, hin2, ex2, rfl⟩
    have hw2 := inc64 (i := j) (by omega)
    simp only [clC_eq, biC_eq, callG_eq, go_sem, ↓reduceIte, ↓ex_map, ↓run_addW, ↓run_subW, hw, Int.toNat_natCast, lt_len, hg, len_eq0, hw2, hw9, Int.toNat_zero, nonneg]
    refine ⟨fun hlj => ?_, fun hgj => ?_⟩
    · obtain ⟨⟨ps, rs⟩, kg, km⟩ := getL hlj
      have hsz2 := List.sizeOf_lt_of_mem km
      simp only [Cl.mk.sizeOf_spec] at hsz2
      cases b2 _ km with | mk c1 c2 c3 c4 =>
      rw [drop_get kg, List.all_cons, rCl_eq] at hin2
      have hA := rPatsL (l := ps) (by omega) fun x hx => rPat_P _ x (Nat.le_refl _) (c2 x hx)
      have hR := h rs (by omega) ⟨c3, c4⟩
      generalize ps.all rPa = w1 at *
      generalize rRs rs = w2 at *
      generalize (cs.drop (j + 1)).all rCl = w3 at *
      simp only [clC_eq, biC_eq, callG_eq, go_sem, ↓reduceIte, ↓ex_map, ↓run_addW, ↓run_subW, hw, Int.toNat_natCast, lt_len, hg, len_eq0, hw2, kg, Int.toNat_zero, nonneg]
      repeat' first
        | apply And.intro
        | intro _
        | (refine hA.call ?_ ?_
           · simp only [go_sem]; done
           try simp only [clC_eq, biC_eq, callG_eq, go_sem, ↓reduceIte, ↓ex_map, ↓run_addW, ↓run_subW, hw, Int.toNat_natCast, lt_len, hg, len_eq0, hw2, kg, Int.toNat_zero, nonneg])
        | (refine hR.call ?_ ?_
           · simp only [go_sem]; done
           try simp only [clC_eq, biC_eq, callG_eq, go_sem, ↓reduceIte, ↓ex_map, ↓run_addW, ↓run_subW, hw, Int.toNat_natCast, lt_len, hg, len_eq0, hw2, kg, Int.toNat_zero, nonneg])
        | fail
      all_goals first | exact ⟨_, rfl⟩ | exact hlj | (refine hstop ?_ rfl; rw [hin2]; clear hin2 hinv h hn hB hg hm b2 c2 c4 km kg; simp_all) | (rw [hin2]; clear hin2 hinv h hn hB hg hm b2 c2 c4 km kg; simp_all)
    · rw [List.drop_of_length_le (by omega)] at hin2
      simp only [List.all_nil, Bool.true_and] at hin2
      exact hnext (d := []) hin2
theorem rexP {n : Nat} (h : QE n) (hR : QR n) (hB : QB n) : QE (n + 1) := by
  rintro ⟨k, s, m, ps, xs, al, bs, l, c⟩ hn hx
  simp only [Ex.mk.sizeOf_spec] at hn
  cases hx with | mk a1 a2 a3 a4 a5 a6 a7 =>
  refine ⟨?_, by simp only [idsL, idsV, exC_ids, Bool.and_self]⟩
  refine T.of0 mix c_r07_RightExpr rfl ?_
  unfold v_r07_RightExpr
  rw [rEx_eq]
  have hX := rExsL (l := xs) (by omega) fun x hx => h x (by have := List.sizeOf_lt_of_mem hx; omega) (a5 x hx)
  have hhas := rhas_P (.mk k s m ps xs al bs l c)
  have hBB := hB bs (by omega) ⟨a4, a7⟩
  have hV := rNamed_P s
  have hC := rIs_P s 2
  simp only [exC_eq] at hhas
  generalize xs.all rEx = w1 at *
  generalize rBs bs = w4 at *
  generalize isVar s = w5 at *
  generalize isK s 2 = w6 at *
  rcases kind8 k with rfl | rfl | rfl | rfl | rfl | rfl | rfl | rfl | ⟨h1, h2, h3, h4, h5, h6, h7, h8⟩
  · have e1 : ((1 : Int) == 1) = true := by decide
    have e2 : ((1 : Int) == 2) = false := by decide
    have e3 : ((1 : Int) == 3) = false := by decide
    have e4 : ((1 : Int) == 4) = false := by decide
    have e5 : ((1 : Int) == 5) = false := by decide
    have e6 : ((1 : Int) == 6) = false := by decide
    have e7 : ((1 : Int) == 7) = false := by decide
    have e8 : ((1 : Int) == 8) = false := by decide
    have e9 : ((1 : Int) != 1) = false := by decide
    have e10 : ((1 : Int) != 2) = true := by decide
    have e11 : ((1 : Int) != 3) = true := by decide
    have e12 : True := trivial
    have hh := hhas 0 0 0 0
    simp only [len_eq0, len_eq1, len_eq2, len_eq3, beq_self_eq_true, Bool.true_and, Bool.and_true] at hh
    simp only [exC_eq, e1, e2, e3, e4, e5, e6, e7, e8, e9, e10, e11, e12, callG_eq, go_sem, ↓reduceIte, len_eq0, len_eq1, len_eq2, len_eq3, len_gt0]
    repeat' first
      | apply And.intro
      | intro _
      | (refine hX.call ?_ ?_
         · simp only [go_sem]; done
         try simp only [exC_eq, e1, e2, e3, e4, e5, e6, e7, e8, e9, e10, e11, e12, callG_eq, go_sem, ↓reduceIte, len_eq0, len_eq1, len_eq2, len_eq3, len_gt0])
      | (refine hh.call ?_ ?_
         · simp only [go_sem]; done
         try simp only [exC_eq, e1, e2, e3, e4, e5, e6, e7, e8, e9, e10, e11, e12, callG_eq, go_sem, ↓reduceIte, len_eq0, len_eq1, len_eq2, len_eq3, len_gt0])
      | (refine hV.call ?_ ?_
         · simp only [go_sem]; done
         try simp only [exC_eq, e1, e2, e3, e4, e5, e6, e7, e8, e9, e10, e11, e12, callG_eq, go_sem, ↓reduceIte, len_eq0, len_eq1, len_eq2, len_eq3, len_gt0])
      | (refine hC.call ?_ ?_
         · simp only [go_sem]; done
         try simp only [exC_eq, e1, e2, e3, e4, e5, e6, e7, e8, e9, e10, e11, e12, callG_eq, go_sem, ↓reduceIte, len_eq0, len_eq1, len_eq2, len_eq3, len_gt0])
      | (refine hBB.call ?_ ?_
         · simp only [go_sem]; done
         try simp only [exC_eq, e1, e2, e3, e4, e5, e6, e7, e8, e9, e10, e11, e12, callG_eq, go_sem, ↓reduceIte, len_eq0, len_eq1, len_eq2, len_eq3, len_gt0])
      | fail
    all_goals (try clear hX hh hV hC hBB hhas h hR hB a5 a6 a7; simp_all [Bool.and_assoc])
  · have e1 : ((2 : Int) == 1) = false := by decide
    have e2 : ((2 : Int) == 2) = true := by decide
    have e3 : ((2 : Int) == 3) = false := by decide
    have e4 : ((2 : Int) == 4) = false := by decide
    have e5 : ((2 : Int) == 5) = false := by decide
    have e6 : ((2 : Int) == 6) = false := by decide
    have e7 : ((2 : Int) == 7) = false := by decide
    have e8 : ((2 : Int) == 8) = false := by decide
    have e9 : ((2 : Int) != 1) = true := by decide
    have e10 : ((2 : Int) != 2) = false := by decide
    have e11 : ((2 : Int) != 3) = true := by decide
    have e12 : True := trivial
    have hh := hhas 0 0 0 0
    simp only [len_eq0, len_eq1, len_eq2, len_eq3, beq_self_eq_true, Bool.true_and, Bool.and_true] at hh
    simp only [exC_eq, e1, e2, e3, e4, e5, e6, e7, e8, e9, e10, e11, e12, callG_eq, go_sem, ↓reduceIte, len_eq0, len_eq1, len_eq2, len_eq3, len_gt0]
    repeat' first
      | apply And.intro
      | intro _
      | (refine hX.call ?_ ?_
         · simp only [go_sem]; done
         try simp only [exC_eq, e1, e2, e3, e4, e5, e6, e7, e8, e9, e10, e11, e12, callG_eq, go_sem, ↓reduceIte, len_eq0, len_eq1, len_eq2, len_eq3, len_gt0])
      | (refine hh.call ?_ ?_
         · simp only [go_sem]; done
         try simp only [exC_eq, e1, e2, e3, e4, e5, e6, e7, e8, e9, e10, e11, e12, callG_eq, go_sem, ↓reduceIte, len_eq0, len_eq1, len_eq2, len_eq3, len_gt0])
      | (refine hV.call ?_ ?_
         · simp only [go_sem]; done
         try simp only [exC_eq, e1, e2, e3, e4, e5, e6, e7, e8, e9, e10, e11, e12, callG_eq, go_sem, ↓reduceIte, len_eq0, len_eq1, len_eq2, len_eq3, len_gt0])
      | (refine hC.call ?_ ?_
         · simp only [go_sem]; done
         try simp only [exC_eq, e1, e2, e3, e4, e5, e6, e7, e8, e9, e10, e11, e12, callG_eq, go_sem, ↓reduceIte, len_eq0, len_eq1, len_eq2, len_eq3, len_gt0])
      | (refine hBB.call ?_ ?_
         · simp only [go_sem]; done
         try simp only [exC_eq, e1, e2, e3, e4, e5, e6, e7, e8, e9, e10, e11, e12, callG_eq, go_sem, ↓reduceIte, len_eq0, len_eq1, len_eq2, len_eq3, len_gt0])
      | fail
    all_goals (try clear hX hh hV hC hBB hhas h hR hB a5 a6 a7; simp_all [Bool.and_assoc])
  · have e1 : ((3 : Int) == 1) = false := by decide
    have e2 : ((3 : Int) == 2) = false := by decide
    have e3 : ((3 : Int) == 3) = true := by decide
    have e4 : ((3 : Int) == 4) = false := by decide
    have e5 : ((3 : Int) == 5) = false := by decide
    have e6 : ((3 : Int) == 6) = false := by decide
    have e7 : ((3 : Int) == 7) = false := by decide
    have e8 : ((3 : Int) == 8) = false := by decide
    have e9 : ((3 : Int) != 1) = true := by decide
    have e10 : ((3 : Int) != 2) = true := by decide
    have e11 : ((3 : Int) != 3) = false := by decide
    have e12 : True := trivial
    have hh := hhas 0 0 0 0
    simp only [len_eq0, len_eq1, len_eq2, len_eq3, beq_self_eq_true, Bool.true_and, Bool.and_true] at hh
    simp only [exC_eq, e1, e2, e3, e4, e5, e6, e7, e8, e9, e10, e11, e12, callG_eq, go_sem, ↓reduceIte, len_eq0, len_eq1, len_eq2, len_eq3, len_gt0]
    repeat' first
      | apply And.intro
      | intro _
      | (refine hX.call ?_ ?_
         · simp only [go_sem]; done
         try simp only [exC_eq, e1, e2, e3, e4, e5, e6, e7, e8, e9, e10, e11, e12, callG_eq, go_sem, ↓reduceIte, len_eq0, len_eq1, len_eq2, len_eq3, len_gt0])
      | (refine hh.call ?_ ?_
         · simp only [go_sem]; done
         try simp only [exC_eq, e1, e2, e3, e4, e5, e6, e7, e8, e9, e10, e11, e12, callG_eq, go_sem, ↓reduceIte, len_eq0, len_eq1, len_eq2, len_eq3, len_gt0])
      | (refine hV.call ?_ ?_
         · simp only [go_sem]; done
         try simp only [exC_eq, e1, e2, e3, e4, e5, e6, e7, e8, e9, e10, e11, e12, callG_eq, go_sem, ↓reduceIte, len_eq0, len_eq1, len_eq2, len_eq3, len_gt0])
      | (refine hC.call ?_ ?_
         · simp only [go_sem]; done
         try simp only [exC_eq, e1, e2, e3, e4, e5, e6, e7, e8, e9, e10, e11, e12, callG_eq, go_sem, ↓reduceIte, len_eq0, len_eq1, len_eq2, len_eq3, len_gt0])
      | (refine hBB.call ?_ ?_
         · simp only [go_sem]; done
         try simp only [exC_eq, e1, e2, e3, e4, e5, e6, e7, e8, e9, e10, e11, e12, callG_eq, go_sem, ↓reduceIte, len_eq0, len_eq1, len_eq2, len_eq3, len_gt0])
      | fail
    all_goals (try clear hX hh hV hC hBB hhas h hR hB a5 a6 a7; simp_all [Bool.and_assoc])
  · have e1 : ((4 : Int) == 1) = false := by decide
    have e2 : ((4 : Int) == 2) = false := by decide
    have e3 : ((4 : Int) == 3) = false := by decide
    have e4 : ((4 : Int) == 4) = true := by decide
    have e5 : ((4 : Int) == 5) = false := by decide
    have e6 : ((4 : Int) == 6) = false := by decide
    have e7 : ((4 : Int) == 7) = false := by decide
    have e8 : ((4 : Int) == 8) = false := by decide
    have e9 : ((4 : Int) != 1) = true := by decide
    have e10 : ((4 : Int) != 2) = true := by decide
    have e11 : ((4 : Int) != 3) = true := by decide
    have e12 : True := trivial
    have hh := hhas 0 2 0 0
    simp only [len_eq0, len_eq1, len_eq2, len_eq3, beq_self_eq_true, Bool.true_and, Bool.and_true] at hh
    simp only [exC_eq, e1, e2, e3, e4, e5, e6, e7, e8, e9, e10, e11, e12, callG_eq, go_sem, ↓reduceIte, len_eq0, len_eq1, len_eq2, len_eq3, len_gt0]
    repeat' first
      | apply And.intro
      | intro _
      | (refine hX.call ?_ ?_
         · simp only [go_sem]; done
         try simp only [exC_eq, e1, e2, e3, e4, e5, e6, e7, e8, e9, e10, e11, e12, callG_eq, go_sem, ↓reduceIte, len_eq0, len_eq1, len_eq2, len_eq3, len_gt0])
      | (refine hh.call ?_ ?_
         · simp only [go_sem]; done
         try simp only [exC_eq, e1, e2, e3, e4, e5, e6, e7, e8, e9, e10, e11, e12, callG_eq, go_sem, ↓reduceIte, len_eq0, len_eq1, len_eq2, len_eq3, len_gt0])
      | (refine hV.call ?_ ?_
         · simp only [go_sem]; done
         try simp only [exC_eq, e1, e2, e3, e4, e5, e6, e7, e8, e9, e10, e11, e12, callG_eq, go_sem, ↓reduceIte, len_eq0, len_eq1, len_eq2, len_eq3, len_gt0])
      | (refine hC.call ?_ ?_
         · simp only [go_sem]; done
         try simp only [exC_eq, e1, e2, e3, e4, e5, e6, e7, e8, e9, e10, e11, e12, callG_eq, go_sem, ↓reduceIte, len_eq0, len_eq1, len_eq2, len_eq3, len_gt0])
      | (refine hBB.call ?_ ?_
         · simp only [go_sem]; done
         try simp only [exC_eq, e1, e2, e3, e4, e5, e6, e7, e8, e9, e10, e11, e12, callG_eq, go_sem, ↓reduceIte, len_eq0, len_eq1, len_eq2, len_eq3, len_gt0])
      | fail
    all_goals (try clear hX hh hV hC hBB hhas h hR hB a5 a6 a7; simp_all [Bool.and_assoc])
  · have e1 : ((5 : Int) == 1) = false := by decide
    have e2 : ((5 : Int) == 2) = false := by decide
    have e3 : ((5 : Int) == 3) = false := by decide
    have e4 : ((5 : Int) == 4) = false := by decide
    have e5 : ((5 : Int) == 5) = true := by decide
    have e6 : ((5 : Int) == 6) = false := by decide
    have e7 : ((5 : Int) == 7) = false := by decide
    have e8 : ((5 : Int) == 8) = false := by decide
    have e9 : ((5 : Int) != 1) = true := by decide
    have e10 : ((5 : Int) != 2) = true := by decide
    have e11 : ((5 : Int) != 3) = true := by decide
    have e12 : True := trivial
    have hh := hhas ps.length 1 0 0
    simp only [len_eq0, len_eq1, len_eq2, len_eq3, beq_self_eq_true, Bool.true_and, Bool.and_true] at hh
    simp only [exC_eq, e1, e2, e3, e4, e5, e6, e7, e8, e9, e10, e11, e12, callG_eq, go_sem, ↓reduceIte, len_eq0, len_eq1, len_eq2, len_eq3, len_gt0]
    repeat' first
      | apply And.intro
      | intro _
      | (refine hX.call ?_ ?_
         · simp only [go_sem]; done
         try simp only [exC_eq, e1, e2, e3, e4, e5, e6, e7, e8, e9, e10, e11, e12, callG_eq, go_sem, ↓reduceIte, len_eq0, len_eq1, len_eq2, len_eq3, len_gt0])
      | fail
    all_goals first
      | (refine WP.range (n := ps.length) (fun i E F => F = [.cells 0 [.int .i64 5, .str s, .int .i64 m, .sl false 1 (ps.map stC), .sl false 9 (xs.map exC), .sl false 7 (al.map alC), .sl false 4 (bs.map biC), .int .i64 l, .int .i64 c]] ∧ ps.all isPar = (ps.drop i).all isPar ∧ ∃ ex, E = ⟨(1, .ptr 0 0 0) :: (3, .int .i64 i) :: ex, .u⟩) ⟨rfl, rfl, _, rfl⟩ ?_)
      | (clear hX hh hV hC hBB hhas h hR hB a5 a6 a7; simp_all; done)
    rintro i E F hi ⟨rfl, hinv, ex, rfl⟩
    have hw := inc64 (i := i) (by omega)
    simp only [callG_eq, go_sem, ↓reduceIte, ↓ex_map, ↓run_addW, hw, Int.toNat_natCast, lt_len, len_gt0, stC_eq, e1, e2, e3, e4, e5, e6, e7, e8, e9, e10, e11, e12]
    refine ⟨fun hlt => ?_, fun hge => ?_⟩
    · obtain ⟨x, hg, hm⟩ := getL hlt
      have hK := rIs_P x 1
      rw [drop_get hg, List.all_cons, show isPar x = (x == [95] || isK x 1) from rfl] at hinv
      generalize ps.all isPar = w8 at *
      generalize (ps.drop (i + 1)).all isPar = w7 at *
      generalize isK x 1 = w2 at *
      generalize hwx : (x == [95]) = wx at *
      simp only [callG_eq, go_sem, ↓reduceIte, hg, hwx]
      repeat' first
        | apply And.intro
        | intro _
        | (refine hK.call ?_ ?_
           · simp only [go_sem]; done
           try simp only [callG_eq, go_sem, ↓reduceIte, ↓ex_map, ↓run_addW, hw, Int.toNat_natCast, lt_len, hwx])
        | fail
      all_goals (try clear e12; first | exact ⟨_, rfl⟩ | exact hlt | (clear hhas h hR hB hBB hV hC hX hn; simp_all [Bool.and_assoc]))
    · rw [List.drop_of_length_le (by omega)] at hinv
      have hinv' : ps.all isPar = true := hinv
      try simp only [callG_eq, go_sem, ↓reduceIte, ↓ex_map, ↓run_addW, hw, Int.toNat_natCast, lt_len, len_gt0, stC_eq, e1, e2, e3, e4, e5, e6, e7, e8, e9, e10, e11, e12]
      rw [hinv']
      clear hinv hinv'
      generalize ps.isEmpty = we at *
      repeat' first
        | apply And.intro
        | intro _
        | (refine hh.call ?_ ?_
           · simp only [go_sem]; done
           try simp only [callG_eq, go_sem, ↓reduceIte, ↓ex_map, ↓run_addW, hw, Int.toNat_natCast, lt_len, len_gt0, stC_eq, e1, e2, e3, e4, e5, e6, e7, e8, e9, e10, e11, e12])
        | fail
      all_goals (try clear e12; first | exact ⟨_, rfl⟩ | exact hlt | (clear hhas h hR hB hBB hV hC hX hn; simp_all [Bool.and_assoc]))
  · have e1 : ((6 : Int) == 1) = false := by decide
    have e2 : ((6 : Int) == 2) = false := by decide
    have e3 : ((6 : Int) == 3) = false := by decide
    have e4 : ((6 : Int) == 4) = false := by decide
    have e5 : ((6 : Int) == 5) = false := by decide
    have e6 : ((6 : Int) == 6) = true := by decide
    have e7 : ((6 : Int) == 7) = false := by decide
    have e8 : ((6 : Int) == 8) = false := by decide
    have e9 : ((6 : Int) != 1) = true := by decide
    have e10 : ((6 : Int) != 2) = true := by decide
    have e11 : ((6 : Int) != 3) = true := by decide
    have e12 : True := trivial
    have hh := hhas 0 1 0 bs.length
    simp only [len_eq0, len_eq1, len_eq2, len_eq3, beq_self_eq_true, Bool.true_and, Bool.and_true] at hh
    simp only [exC_eq, e1, e2, e3, e4, e5, e6, e7, e8, e9, e10, e11, e12, callG_eq, go_sem, ↓reduceIte, len_eq0, len_eq1, len_eq2, len_eq3, len_gt0]
    repeat' first
      | apply And.intro
      | intro _
      | (refine hX.call ?_ ?_
         · simp only [go_sem]; done
         try simp only [exC_eq, e1, e2, e3, e4, e5, e6, e7, e8, e9, e10, e11, e12, callG_eq, go_sem, ↓reduceIte, len_eq0, len_eq1, len_eq2, len_eq3, len_gt0])
      | (refine hh.call ?_ ?_
         · simp only [go_sem]; done
         try simp only [exC_eq, e1, e2, e3, e4, e5, e6, e7, e8, e9, e10, e11, e12, callG_eq, go_sem, ↓reduceIte, len_eq0, len_eq1, len_eq2, len_eq3, len_gt0])
      | (refine hV.call ?_ ?_
         · simp only [go_sem]; done
         try simp only [exC_eq, e1, e2, e3, e4, e5, e6, e7, e8, e9, e10, e11, e12, callG_eq, go_sem, ↓reduceIte, len_eq0, len_eq1, len_eq2, len_eq3, len_gt0])
      | (refine hC.call ?_ ?_
         · simp only [go_sem]; done
         try simp only [exC_eq, e1, e2, e3, e4, e5, e6, e7, e8, e9, e10, e11, e12, callG_eq, go_sem, ↓reduceIte, len_eq0, len_eq1, len_eq2, len_eq3, len_gt0])
      | (refine hBB.call ?_ ?_
         · simp only [go_sem]; done
         try simp only [exC_eq, e1, e2, e3, e4, e5, e6, e7, e8, e9, e10, e11, e12, callG_eq, go_sem, ↓reduceIte, len_eq0, len_eq1, len_eq2, len_eq3, len_gt0])
      | fail
    all_goals (try clear hX hh hV hC hBB hhas h hR hB a5 a6 a7; simp_all [Bool.and_assoc])
  · have e1 : ((7 : Int) == 1) = false := by decide
    have e2 : ((7 : Int) == 2) = false := by decide
    have e3 : ((7 : Int) == 3) = false := by decide
    have e4 : ((7 : Int) == 4) = false := by decide
    have e5 : ((7 : Int) == 5) = false := by decide
    have e6 : ((7 : Int) == 6) = false := by decide
    have e7 : ((7 : Int) == 7) = true := by decide
    have e8 : ((7 : Int) == 8) = false := by decide
    have e9 : ((7 : Int) != 1) = true := by decide
    have e10 : ((7 : Int) != 2) = true := by decide
    have e11 : ((7 : Int) != 3) = true := by decide
    have e12 : True := trivial
    have hh := hhas 0 1 al.length 0
    simp only [len_eq0, len_eq1, len_eq2, len_eq3, beq_self_eq_true, Bool.true_and, Bool.and_true] at hh
    simp only [exC_eq, e1, e2, e3, e4, e5, e6, e7, e8, e9, e10, e11, e12, callG_eq, go_sem, ↓reduceIte, len_eq0, len_eq1, len_eq2, len_eq3, len_gt0]
    repeat' first
      | apply And.intro
      | intro _
      | (refine hX.call ?_ ?_
         · simp only [go_sem]; done
         try simp only [exC_eq, e1, e2, e3, e4, e5, e6, e7, e8, e9, e10, e11, e12, callG_eq, go_sem, ↓reduceIte, len_eq0, len_eq1, len_eq2, len_eq3, len_gt0])
      | fail
    all_goals first
      | (refine WP.range (n := al.length) (fun i E F => F = [.cells 0 [.int .i64 7, .str s, .int .i64 m, .sl false 1 (ps.map stC), .sl false 9 (xs.map exC), .sl false 7 (al.map alC), .sl false 4 (bs.map biC), .int .i64 l, .int .i64 c]] ∧ al.all rAl = (al.drop i).all rAl ∧ ∃ ex, E = ⟨(1, .ptr 0 0 0) :: (4, .int .i64 i) :: ex, .u⟩) ⟨rfl, rfl, _, rfl⟩ ?_)
      | (clear hX hh hV hC hBB hhas h hR hB a5 a6 a7; simp_all; done)
    rintro i E F hi ⟨rfl, hinv, ex, rfl⟩
    have hw := inc64 (i := i) (by omega)
    simp only [callG_eq, go_sem, ↓reduceIte, ↓ex_map, ↓run_addW, hw, Int.toNat_natCast, lt_len, len_gt0, alC_eq, e1, e2, e3, e4, e5, e6, e7, e8, e9, e10, e11, e12]
    refine ⟨fun hlt => ?_, fun hge => ?_⟩
    · obtain ⟨⟨p, rs⟩, hg, hm⟩ := getL hlt
      have hsz := List.sizeOf_lt_of_mem hm
      simp only [Al.mk.sizeOf_spec] at hsz
      cases a6 _ hm with | mk c1 c2 c3 =>
      have hP := rPat_P _ p (Nat.le_refl _) c1
      have hRR := hR rs (by omega) ⟨c2, c3⟩
      rw [drop_get hg, List.all_cons, rAl_eq] at hinv
      generalize rPa p = w2 at *
      generalize rRs rs = w3 at *
      generalize al.all rAl = w8 at *
      generalize (al.drop (i + 1)).all rAl = w7 at *
      simp only [callG_eq, go_sem, ↓reduceIte, ↓ex_map, ↓run_addW, hw, Int.toNat_natCast, lt_len, alC_eq, hg, paC_get6]
      repeat' first
        | apply And.intro
        | intro _
        | (refine hP.call ?_ ?_
           · simp only [go_sem]; done
           try simp only [callG_eq, go_sem, ↓reduceIte, ↓ex_map, ↓run_addW, hw, Int.toNat_natCast, lt_len, alC_eq, hg, paC_get6])
        | (refine hRR.call ?_ ?_
           · simp only [go_sem]; done
           try simp only [callG_eq, go_sem, ↓reduceIte, ↓ex_map, ↓run_addW, hw, Int.toNat_natCast, lt_len, alC_eq, hg, paC_get6])
        | fail
      all_goals (try clear e12; first | exact ⟨_, rfl⟩ | exact hlt | (clear hhas h hR hB hBB hV hC hX hn; simp_all [Bool.and_assoc]))
    · rw [List.drop_of_length_le (by omega)] at hinv
      have hinv' : al.all rAl = true := hinv
      try simp only [callG_eq, go_sem, ↓reduceIte, ↓ex_map, ↓run_addW, hw, Int.toNat_natCast, lt_len, len_gt0, alC_eq, e1, e2, e3, e4, e5, e6, e7, e8, e9, e10, e11, e12]
      rw [hinv']
      clear hinv hinv'
      generalize al.isEmpty = we at *
      repeat' first
        | apply And.intro
        | intro _
        | (refine hh.call ?_ ?_
           · simp only [go_sem]; done
           try simp only [callG_eq, go_sem, ↓reduceIte, ↓ex_map, ↓run_addW, hw, Int.toNat_natCast, lt_len, len_gt0, alC_eq, e1, e2, e3, e4, e5, e6, e7, e8, e9, e10, e11, e12])
        | fail
      all_goals (try clear e12; first | exact ⟨_, rfl⟩ | exact hlt | (clear hhas h hR hB hBB hV hC hX hn; simp_all [Bool.and_assoc]))
  · have e1 : ((8 : Int) == 1) = false := by decide
    have e2 : ((8 : Int) == 2) = false := by decide
    have e3 : ((8 : Int) == 3) = false := by decide
    have e4 : ((8 : Int) == 4) = false := by decide
    have e5 : ((8 : Int) == 5) = false := by decide
    have e6 : ((8 : Int) == 6) = false := by decide
    have e7 : ((8 : Int) == 7) = false := by decide
    have e8 : ((8 : Int) == 8) = true := by decide
    have e9 : ((8 : Int) != 1) = true := by decide
    have e10 : ((8 : Int) != 2) = true := by decide
    have e11 : ((8 : Int) != 3) = true := by decide
    have e12 : True := trivial
    have hh := hhas 0 3 0 0
    simp only [len_eq0, len_eq1, len_eq2, len_eq3, beq_self_eq_true, Bool.true_and, Bool.and_true] at hh
    simp only [exC_eq, e1, e2, e3, e4, e5, e6, e7, e8, e9, e10, e11, e12, callG_eq, go_sem, ↓reduceIte, len_eq0, len_eq1, len_eq2, len_eq3, len_gt0]
    repeat' first
      | apply And.intro
      | intro _
      | (refine hX.call ?_ ?_
         · simp only [go_sem]; done
         try simp only [exC_eq, e1, e2, e3, e4, e5, e6, e7, e8, e9, e10, e11, e12, callG_eq, go_sem, ↓reduceIte, len_eq0, len_eq1, len_eq2, len_eq3, len_gt0])
      | (refine hh.call ?_ ?_
         · simp only [go_sem]; done
         try simp only [exC_eq, e1, e2, e3, e4, e5, e6, e7, e8, e9, e10, e11, e12, callG_eq, go_sem, ↓reduceIte, len_eq0, len_eq1, len_eq2, len_eq3, len_gt0])
      | (refine hV.call ?_ ?_
         · simp only [go_sem]; done
         try simp only [exC_eq, e1, e2, e3, e4, e5, e6, e7, e8, e9, e10, e11, e12, callG_eq, go_sem, ↓reduceIte, len_eq0, len_eq1, len_eq2, len_eq3, len_gt0])
      | (refine hC.call ?_ ?_
         · simp only [go_sem]; done
         try simp only [exC_eq, e1, e2, e3, e4, e5, e6, e7, e8, e9, e10, e11, e12, callG_eq, go_sem, ↓reduceIte, len_eq0, len_eq1, len_eq2, len_eq3, len_gt0])
      | (refine hBB.call ?_ ?_
         · simp only [go_sem]; done
         try simp only [exC_eq, e1, e2, e3, e4, e5, e6, e7, e8, e9, e10, e11, e12, callG_eq, go_sem, ↓reduceIte, len_eq0, len_eq1, len_eq2, len_eq3, len_gt0])
      | fail
    all_goals (try clear hX hh hV hC hBB hhas h hR hB a5 a6 a7; simp_all [Bool.and_assoc])
  · have e1 : (k == 1) = false := by simpa using h1
    have e2 : (k == 2) = false := by simpa using h2
    have e3 : (k == 3) = false := by simpa using h3
    have e4 : (k == 4) = false := by simpa using h4
    have e5 : (k == 5) = false := by simpa using h5
    have e6 : (k == 6) = false := by simpa using h6
    have e7 : (k == 7) = false := by simpa using h7
    have e8 : (k == 8) = false := by simpa using h8
    have e9 : (k != 1) = true := by simpa using h1
    have e10 : (k != 2) = true := by simpa using h2
    have e11 : (k != 3) = true := by simpa using h3
    have e12 : True := trivial
    have hh := hhas 0 0 0 0
    simp only [len_eq0, len_eq1, len_eq2, len_eq3, beq_self_eq_true, Bool.true_and, Bool.and_true] at hh
    simp only [exC_eq, e1, e2, e3, e4, e5, e6, e7, e8, e9, e10, e11, e12, callG_eq, go_sem, ↓reduceIte, len_eq0, len_eq1, len_eq2, len_eq3, len_gt0]
    repeat' first
      | apply And.intro
      | intro _
      | (refine hX.call ?_ ?_
         · simp only [go_sem]; done
         try simp only [exC_eq, e1, e2, e3, e4, e5, e6, e7, e8, e9, e10, e11, e12, callG_eq, go_sem, ↓reduceIte, len_eq0, len_eq1, len_eq2, len_eq3, len_gt0])
      | (refine hh.call ?_ ?_
         · simp only [go_sem]; done
         try simp only [exC_eq, e1, e2, e3, e4, e5, e6, e7, e8, e9, e10, e11, e12, callG_eq, go_sem, ↓reduceIte, len_eq0, len_eq1, len_eq2, len_eq3, len_gt0])
      | (refine hV.call ?_ ?_
         · simp only [go_sem]; done
         try simp only [exC_eq, e1, e2, e3, e4, e5, e6, e7, e8, e9, e10, e11, e12, callG_eq, go_sem, ↓reduceIte, len_eq0, len_eq1, len_eq2, len_eq3, len_gt0])
      | (refine hC.call ?_ ?_
         · simp only [go_sem]; done
         try simp only [exC_eq, e1, e2, e3, e4, e5, e6, e7, e8, e9, e10, e11, e12, callG_eq, go_sem, ↓reduceIte, len_eq0, len_eq1, len_eq2, len_eq3, len_gt0])
      | (refine hBB.call ?_ ?_
         · simp only [go_sem]; done
         try simp only [exC_eq, e1, e2, e3, e4, e5, e6, e7, e8, e9, e10, e11, e12, callG_eq, go_sem, ↓reduceIte, len_eq0, len_eq1, len_eq2, len_eq3, len_gt0])
      | fail
    all_goals (try clear hX hh hV hC hBB hhas h hR hB a5 a6 a7; simp_all [Bool.and_assoc])
theorem rall_P : ∀ n : Nat, QE n ∧ QR n ∧ QB n := by
  have z1 : QE 0 := by rintro ⟨⟩ h; simp at h
  have z3 : QR 0 := by intro l h; cases l <;> simp at h
  have z4 : QB 0 := by intro l h; cases l <;> simp at h
  intro n
  induction n with
  | zero => exact ⟨z1, z3, z4⟩
  | succ n ih => exact ⟨rexP ih.1 ih.2.1 ih.2.2, rrhP ih.1, rbiP ih.2.1⟩
theorem rEx_P (x : Ex) (h : ExB x) : Pu 26 [.agg (exC x)] (.bool (rEx x)) := (rall_P _).1 x (Nat.le_refl _) h
theorem rBinds_P (l : List Bi) (h : LB 56 BiB l) : Pu 50 [.sl false 4 (l.map biC)] (.bool (rBs l)) := (rall_P _).2.2 l (Nat.le_refl _) h
end Go.Proofs.YtoaohapbbnpbeaaGreat.Vm
namespace Go.Proofs.YtoaohapbbnpbeaaGreat.Vm
open Go
set_option linter.unusedSimpArgs false

/-- What stands in a heap is as it was, or names only what was there. -/
def SameK (H H' : Heap) : Prop := ∀ (i : Nat) (ob : Obj), H'[i]? = some ob → H[i]? = some ob ∨ idsO H.length ob = true
theorem SameK.refl (H : Heap) : SameK H H := fun _ _ h => .inl h
theorem SameK.set {A B : Heap} (h : SameK A B) {i : Nat} {o : Obj} (ho : idsO A.length o = true) : SameK A (B.set i o) := by
  intro j ob hj
  rw [List.getElem?_set] at hj
  split at hj
  · split at hj
    · cases hj; exact .inr ho
    · cases hj
  · exact h j ob hj
theorem SameK.trans {A B C : Heap} (h : SameK A B) (hl : B.length = A.length) (k : SameK B C) : SameK A C := by
  intro i ob hi
  rcases k i ob hi with h1 | h1
  · exact h i ob h1
  · rw [hl] at h1; exact .inr h1
@[go_sem] theorem strip_map {i : Nat} : strip (.map i) = .map i := rfl
@[go_sem] theorem strip0_map {i : Nat} : strip0 (.map i) = .map i := rfl
@[go_sem] theorem strip_nilmap : strip .nilmap = .nilmap := rfl
@[go_sem] theorem strip0_nilmap : strip0 .nilmap = .nilmap := rfl
/-- How a function ends that leaves a heap as long as it was behind. -/
def outH (H0 : Heap) (Q : Heap → Prop) (H : Heap) : Prop := ∃ H1 l, H = H1 ++ l ∧ H1.length = H0.length ∧ SameK H0 H1 ∧ Q H1
def finH (H0 : Heap) (v : V) (R : V → Heap → Prop) (H : Heap) : Prop := ∃ r, fixV H0.length H 8 v = some r ∧ outH H0 (R r) H
def endH (H0 : Heap) (rs : List VRes) (R : V → Heap → Prop) : KK := fun x E H => (match x with | .exit _ => False | _ => True) ∧ ∃ r0, resV H0.length H E.f rs = some r0 ∧ finH H0 r0 R H
theorem T.of_H {P : Program} (hmix : P.follows .mixedOrders = true) {f : Nat} {vf : VFunc} (hc : chkFn P f vf = true) {args : List V} {H : Heap} {R : V → Heap → Prop} (hl : Nat.ble args.length vf.n = true)
    (h : run P vf.body [] ⟨args.zipIdx.map fun p => (p.2, p.1), .tup []⟩ H (endH H vf.results R)) : ∃ r H', T P f args H r H' ∧ R r H' := by
  obtain ⟨x, E1, H1, h1, h2, r0, h3, r, h4, H2, l, rfl, h5, h6, h7⟩ := wp_sound h
  rw [env0_eq] at h1
  have ht : (H2 ++ l).take H.length = H2 := by rw [← h5]; simp
  refine ⟨r, H2, ?_, h7⟩
  have := T_of (m := H.length) hmix hc (Nat.le_of_ble_eq_true hl) h1 (by intro id e; subst e; exact h2) (Nat.le_refl _) (by simp; omega) h3 h4 (fun i ob hi hob => by
    rw [List.getElem?_append_left (by omega)] at hob
    exact h6 i ob hob)
  rw [ht] at this
  exact this
/-- The cell that a function answers. -/
def cellX (H0 : Heap) (v : V) (n : Nat) (R : V → Heap → Prop) (H : Heap) : Prop := match v with
  | .ptr id ver off => H0.length ≤ id ∧ ∃ cs, getCells H id ver = some cs ∧ off + n ≤ cs.length ∧ finH H0 (.agg ((cs.drop off).take n)) R H
  | _ => False
section
variable {R : V → Heap → Prop} {l : List (Nat × V)} {d : V} {H H0 : Heap} {t u n : Nat} {Q : Heap → Prop}
@[go_sem] theorem cellX_ptr {id ver off : Nat} : cellX H0 (.ptr id ver off) n R H = (H0.length ≤ id ∧ exO (getCells H id ver) fun cs => off + n ≤ cs.length ∧ finH H0 (.agg ((cs.drop off).take n)) R H) := (rfl)
theorem endH_cell0 {x : X} (hx : (match x with | .exit _ => False | _ => True)) (h : cellX H0 (getE l d t) n R H) : endH H0 [.cell t n true] R x ⟨l, d⟩ H := by
  have e : (En.f ⟨l, d⟩) t = getE l d t := rfl
  refine ⟨hx, ?_⟩
  unfold cellX at h
  unfold resV
  simp only [e]
  revert h
  generalize getE l d t = v
  intro h
  cases v <;> first | exact h.elim | skip
  rename_i id ver off
  obtain ⟨h1, cs, h2, h3, h4⟩ := h
  refine ⟨.agg ((cs.drop off).take n), ?_, h4⟩
  simp [h2, cut, h3, h1, mk]
@[go_sem] theorem endH_tmp : endH H0 [.tmp t] R .ret ⟨l, d⟩ H = finH H0 (getE l d t) R H := by simp [endH, finH, resV, resL, res1, pack, En.f]
@[go_sem] theorem endH_tmpN : endH H0 [.tmp t] R .normal ⟨l, d⟩ H = finH H0 (getE l d t) R H := by simp [endH, finH, resV, resL, res1, pack, En.f]
@[go_sem] theorem endH_nil : endH H0 [] R .ret ⟨l, d⟩ H = outH H0 (R (.tup [])) H := by simp [endH, finH, resV, resL, pack, fixV]
@[go_sem] theorem endH_nilN : endH H0 [] R .normal ⟨l, d⟩ H = outH H0 (R (.tup [])) H := by simp [endH, finH, resV, resL, pack, fixV]
@[go_sem] theorem finH_int {k : IntKind} {n : Int} : finH H0 (.int k n) R H = outH H0 (R (.int k n)) H := by simp [finH, fixV]
@[go_sem] theorem finH_bool {b : Bool} : finH H0 (.bool b) R H = outH H0 (R (.bool b)) H := by simp [finH, fixV]
@[go_sem] theorem finH_sl {o : Bool} {z : Nat} {xs : List (List V)} : finH H0 (.sl o z xs) R H = outH H0 (R (.sl o z xs)) H := by simp [finH, fixV]
theorem out_app {l : Heap} (h : Q H) : outH H Q (H ++ l) := ⟨H, l, rfl, rfl, SameK.refl H, h⟩
theorem out_self (h : Q H) : outH H Q H := ⟨H, [], by simp, rfl, SameK.refl H, h⟩
theorem out_set {l : Heap} {i : Nat} {o : Obj} (ho : idsO H.length o = true) (h : Q (H.set i o)) : outH H Q (H.set i o ++ l) := ⟨_, l, rfl, by simp, (SameK.refl H).set ho, h⟩
theorem set_appL {l : Heap} {i : Nat} {o : Obj} (h : i < H.length) : (H ++ l).set i o = H.set i o ++ l := by
  rw [List.set_append, if_pos h]
@[go_sem] theorem finH_str {b : List UInt8} : finH H0 (.str b) R H = outH H0 (R (.str b)) H := by simp [finH, fixV]
@[go_sem] theorem finH_agg {cs : List V} (h : cs.all fixP = true) : finH H0 (.agg cs) R H = outH H0 (R (.agg cs)) H := by
  unfold finH
  rw [fixQ_eq (v := .agg cs) h _ H 6]; simp
@[go_sem] theorem finH_tup2 {a b : V} (ha : fixQ a = true) (hb : fixQ b = true) : finH H0 (.tup [a, b]) R H = outH H0 (R (.tup [a, b])) H := by
  unfold finH
  rw [fixd_tup2, fixQ_eq ha _ H 5, fixQ_eq hb _ H 5]
  simp
@[go_sem] theorem endH_two : endH H0 [.tmp t, .tmp u] R .ret ⟨l, d⟩ H = finH H0 (.tup [getE l d t, getE l d u]) R H := by simp [endH, resV, resL, res1, pack, En.f]
@[go_sem] theorem endH_ct : endH H0 [.cell t n true, .tmp u] R .ret ⟨l, d⟩ H = cellT (getE l d t) n H fun v => finH H0 (.tup [v, getE l d u]) R H := by
  apply propext
  have h := cellT_res (H := H) (t := t) (n := n) (σ := En.f ⟨l, d⟩) (G := fun w => some (.tup [w, getE l d u])) (X := fun r0 => finH H0 r0 R H)
  have e : resV H0.length H (En.f ⟨l, d⟩) [.cell t n true, .tmp u] = (res1 H (En.f ⟨l, d⟩) (.cell t n true)).bind fun w => some (.tup [w, getE l d u]) := by
    show Option.map pack ((res1 H (En.f ⟨l, d⟩) (.cell t n true)).bind _) = _
    cases res1 H (En.f ⟨l, d⟩) (.cell t n true) <;> rfl
  unfold endH
  rw [e]
  simp only [true_and]
  refine Iff.trans h ?_
  simp [En.f]
@[go_sem] theorem endH_tc : endH H0 [.tmp u, .cell t n true] R .ret ⟨l, d⟩ H = cellT (getE l d t) n H fun v => finH H0 (.tup [getE l d u, v]) R H := by
  apply propext
  have h := cellT_res (H := H) (t := t) (n := n) (σ := En.f ⟨l, d⟩) (G := fun w => some (.tup [getE l d u, w])) (X := fun r0 => finH H0 r0 R H)
  have e : resV H0.length H (En.f ⟨l, d⟩) [.tmp u, .cell t n true] = (res1 H (En.f ⟨l, d⟩) (.cell t n true)).bind fun w => some (.tup [getE l d u, w]) := by
    show Option.map pack ((res1 H (En.f ⟨l, d⟩) (.tmp u)).bind fun v => Option.map _ ((res1 H (En.f ⟨l, d⟩) (.cell t n true)).bind _)) = _
    cases res1 H (En.f ⟨l, d⟩) (.cell t n true) <;> rfl
  unfold endH
  rw [e]
  simp only [true_and]
  refine Iff.trans h ?_
  simp [En.f]
end
/-! ### Maps with texts as keys. -/
def lookS {β : Type} (M : List (List UInt8 × β)) (k : List UInt8) : Option β := match M with
  | [] => none
  | p :: r => if p.1 = k then some p.2 else lookS r k
theorem key_str (a b : List UInt8) : eqV [.s] false (.str a) (.str b) = some (decide (a = b)) := by
  simp [eqV, eqCells, eqScal]
  rw [Bool.eq_iff_iff]; simp
theorem findS {β : Type} (val : β → V) (k : List UInt8) : ∀ (L : List (List UInt8 × β)) (i : Nat), findV false [.s] (.str k) (L.map fun p => (V.str p.1, val p.2)) i = some ((L.findIdx? (fun p => p.1 = k)).map (i + ·))
  | [], i => by simp [findV, key_str]
  | p :: L, i => by
    rw [List.map_cons, findV, key_str, Option.bind_some, List.findIdx?_cons]
    by_cases h : p.1 = k
    · subst h; simp only [decide_true, if_true]; rfl
    · rw [if_neg (by simpa using fun e => h e.symm), if_neg (by simpa using h), findS val k L (i + 1)]
      congr 1
      rw [Option.map_map]
      congr 1
      funext j
      simp; omega
theorem lookS_idx {β : Type} : ∀ (σ : List (List UInt8 × β)) (n : List UInt8), (σ.findIdx? (fun p => p.1 = n)).bind (fun j => σ[j]?.map (·.2)) = lookS σ n ∧ ∀ j, σ.findIdx? (fun p => p.1 = n) = some j → ∃ t, σ[j]? = some (n, t)
  | [], n => ⟨rfl, fun j h => by cases h⟩
  | p :: σ, n => by
    obtain ⟨h1, h2⟩ := lookS_idx σ n
    rw [List.findIdx?_cons, lookS]
    by_cases h : p.1 = n
    · subst h
      exact ⟨by simp, fun j hj => by simp at hj; subst hj; exact ⟨p.2, rfl⟩⟩
    · rw [if_neg (by simpa using h), if_neg h]
      refine ⟨?_, fun j hj => ?_⟩
      · rw [← h1]; cases σ.findIdx? (fun p => decide (p.1 = n)) <;> simp
      · obtain ⟨i, hi, rfl⟩ := Option.map_eq_some_iff.1 hj
        exact h2 i hi
section
variable {P : Program} {K : KK} {s : List Fr} {E : En} {H : Heap} {tk : List Nat} {dst : Option Nat} {os : List VOp} {keep : List Nat} {q : Nat} {β : Type} {val : β → V} {M : List (List UInt8 × β)} {k : List UInt8}
theorem lookS_hit (h : H[q]? = some (.map (M.map fun p => (V.str p.1, val p.2)))) {b : β} (hl : lookS M k = some b) {zs : List V} {agg : Bool} :
    runAct P (.lookup false [.s] true zs agg) [.map q, .str k] tk dst os keep s E H K = nextV P (.tup [val b, .bool true]) tk dst os keep s E H K := by
  have e : sLookup false [.s] true zs agg [.map q, .str k] H = some (.tup [val b, .bool true], H) := by
    obtain ⟨h1, h2⟩ := lookS_idx M k
    unfold sLookup mapOf
    simp only [h, Option.bind_some]
    rw [findS val k M 0]
    cases hf : M.findIdx? (fun p => decide (p.1 = k)) with
    | none => rw [hf] at h1; simp at h1; rw [← h1] at hl; cases hl
    | some j =>
      obtain ⟨t', ht'⟩ := h2 j hf
      rw [hf, Option.bind_some, ht'] at h1
      rw [hl] at h1
      cases h1
      simp [ht']
  show (∃ r H', sLookup false [.s] true zs agg [.map q, .str k] H = some (r, H') ∧ _) = _
  rw [e]
  apply propext
  constructor
  · rintro ⟨r, H', h, k⟩; cases h; exact k
  · intro k; exact ⟨_, _, rfl, k⟩
theorem lookS_miss (h : H[q]? = some (.map (M.map fun p => (V.str p.1, val p.2)))) (hl : lookS M k = none) {zs : List V} {agg : Bool} {z : V} (hz : mk agg zs = some z) :
    runAct P (.lookup false [.s] true zs agg) [.map q, .str k] tk dst os keep s E H K = nextV P (.tup [z, .bool false]) tk dst os keep s E H K := by
  have e : sLookup false [.s] true zs agg [.map q, .str k] H = some (.tup [z, .bool false], H) := by
    obtain ⟨h1, h2⟩ := lookS_idx M k
    unfold sLookup mapOf
    simp only [h, Option.bind_some]
    rw [findS val k M 0]
    cases hf : M.findIdx? (fun p => decide (p.1 = k)) with
    | none => simp [hz]
    | some j =>
      obtain ⟨t', ht'⟩ := h2 j hf
      rw [hf, Option.bind_some, ht'] at h1
      rw [hl] at h1
      cases h1
  show (∃ r H', sLookup false [.s] true zs agg [.map q, .str k] H = some (r, H') ∧ _) = _
  rw [e]
  apply propext
  constructor
  · rintro ⟨r, H', h, k⟩; cases h; exact k
  · intro k; exact ⟨_, _, rfl, k⟩
theorem putS_new (h : H[q]? = some (.map (M.map fun p => (V.str p.1, val p.2)))) (hl : lookS M k = none) {b : β} :
    runAct P (.mapUpdate false [.s]) [.map q, .str k, val b] tk dst os keep s E H K = nextV P (.tup []) tk dst os keep s E (H.set q (.map ((M ++ [(k, b)]).map fun p => (V.str p.1, val p.2)))) K := by
  have e : sMapUpdate false [.s] [.map q, .str k, val b] H = some (.tup [], H.set q (.map ((M ++ [(k, b)]).map fun p => (V.str p.1, val p.2)))) := by
    obtain ⟨h1, h2⟩ := lookS_idx M k
    unfold sMapUpdate mapOf
    simp only [h, Option.bind_some]
    rw [findS val k M 0]
    cases hf : M.findIdx? (fun p => decide (p.1 = k)) with
    | none => simp
    | some j =>
      obtain ⟨t', ht'⟩ := h2 j hf
      rw [hf, Option.bind_some, ht'] at h1
      rw [hl] at h1
      cases h1
  show (∃ r H', sMapUpdate false [.s] [.map q, .str k, val b] H = some (r, H') ∧ _) = _
  rw [e]
  apply propext
  constructor
  · rintro ⟨r, H', h, k⟩; cases h; exact k
  · intro k; exact ⟨_, _, rfl, k⟩
end
end Go.Proofs.YtoaohapbbnpbeaaGreat.Vm
namespace Go.Proofs.YtoaohapbbnpbeaaGreat.Vm
open Go Lx

inductive Tm where
  | mk (s : Str) (n : Int) (xs : List Tm)
def tmC : Tm → List V
  | .mk s n xs => [.str s, .int .i64 n, .sl false 3 (xs.map tmC)]
theorem tmC_eq (s : Str) (n : Int) (xs : List Tm) : tmC (.mk s n xs) = [.str s, .int .i64 n, .sl false 3 (xs.map tmC)] := by rw [tmC]
def arR : List Tm → V
  | [] => .nilh 3
  | x :: l => .sl false 3 ((x :: l).map tmC)
/-- A term as it is answered. -/
def tmQ : Tm → List V
  | .mk s n xs => [.str s, .int .i64 n, arR xs]
theorem tmQ_eq (s : Str) (n : Int) (xs : List Tm) : tmQ (.mk s n xs) = [.str s, .int .i64 n, arR xs] := rfl
inductive TmB : Tm → Prop
  | mk {s n xs} (hl : xs.length * 48 ≤ 140737488355328) (h : ∀ x ∈ xs, TmB x) : TmB (.mk s n xs)
theorem tmC_ok (x : Tm) : Cells 3 (tmC x) := by cases x; rw [tmC_eq]; exact cells_of rfl rfl rfl (fun _ => rfl) rfl rfl
@[go_sem] theorem tmC_len {x : Tm} : (tmC x).length = 3 := (tmC_ok x).len
@[go_sem] theorem tmC_take {x : Tm} : List.take 3 (tmC x) = tmC x := List.take_of_length_le (by rw [tmC_len]; exact Nat.le_refl _)
@[go_sem] theorem tmC_strip {x : Tm} : (tmC x).map strip0 = tmC x := (tmC_ok x).strip
@[go_sem] theorem tmC_inl {x : Tm} : (tmC x).map inl0 = tmC x := (tmC_ok x).inl
@[go_sem] theorem tmC_ids {x : Tm} {m : Nat} : idsL m (tmC x) = true := (tmC_ok x).ids m
@[go_sem] theorem tmC_p1 {x : Tm} : (tmC x).all plain1 = true := (tmC_ok x).p1
@[go_sem] theorem tmC_pc {x : Tm} : (tmC x).all plainC = true := (tmC_ok x).pc
@[go_sem] theorem tmC_thaw {x : Tm} {H : Heap} : thawL (tmC x) H = (tmC x, H) := thawL_all tmC_pc
@[go_sem] theorem tmC_fix {x : Tm} : (tmC x).all fixP = true := plainC_fix tmC_p1
theorem tmQ_inl (x : Tm) : (tmQ x).map inl0 = tmC x := by
  obtain ⟨s, n, xs⟩ := x
  rw [tmC_eq]
  cases xs <;> rfl
theorem tmQ_p1 (x : Tm) : (tmQ x).all plain1 = true := by obtain ⟨s, n, xs⟩ := x; cases xs <;> rfl
theorem tmQ_pc (x : Tm) : (tmQ x).all plainC = true := by obtain ⟨s, n, xs⟩ := x; cases xs <;> rfl
theorem tmQ_fix (x : Tm) : (tmQ x).all fixP = true := by obtain ⟨s, n, xs⟩ := x; cases xs <;> rfl
theorem tmQ_strip (x : Tm) : (tmQ x).map strip0 = tmQ x := by obtain ⟨s, n, xs⟩ := x; cases xs <;> rfl
theorem tmQ_len (x : Tm) : (tmQ x).length = 3 := by obtain ⟨s, n, xs⟩ := x; rfl
theorem arR_strip (l : List Tm) : strip0 (arR l) = arR l := by cases l <;> rfl
theorem arR_pc (l : List Tm) : plainC (arR l) = true := by cases l <;> rfl
theorem arR_fix (l : List Tm) : fixP (arR l) = true := by cases l <;> rfl
theorem arR_inl (l : List Tm) : inl0 (arR l) = .sl false 3 (l.map tmC) := by cases l <;> rfl

/-! ### Which expressions are terms. -/
def exK : Ex → Int
  | .mk k .. => k
def isNumT (o : Option Tm) : Bool := match o with | some (.mk [] _ _) => true | _ => false
def joinTm (f x : Option Tm) : Option Tm := match f, x with
  | some (.mk (c :: r) _ l), some a => some (.mk (c :: r) 0 (l ++ [a]))
  | _, _ => none
def ofT : Ex → Option Tm
  | .mk k s n _ xs _ _ _ _ => if k = 3 then some (.mk [] n []) else if k = 2 then some (.mk s 0 []) else if k ≠ 4 then none else
    match xs with
    | [f, x] => joinTm (ofT f) (ofT x)
    | _ => none
theorem ofT_eq (k : Int) (s : Str) (n : Int) (ps : List Str) (xs : List Ex) (al : List Al) (bs : List Bi) (l c : Int) : ofT (.mk k s n ps xs al bs l c) =
    if k = 3 then some (.mk [] n []) else if k = 2 then some (.mk s 0 []) else if k ≠ 4 then none else match xs with | [f, x] => joinTm (ofT f) (ofT x) | _ => none := by
  cases xs with
  | nil => rw [ofT]; simp
  | cons f r => cases r with
    | nil => rw [ofT]; simp
    | cons x r => cases r with
      | nil => rw [ofT]
      | cons y r => rw [ofT]; simp
/-- What the loop answers. -/
def spT (o : Option Tm) (acc : List Tm) : Option Tm := match o with
  | some (.mk (c :: r) _ l) => some (.mk (c :: r) 0 (l ++ acc.reverse))
  | _ => none
theorem spT_join (f x : Option Tm) (acc : List Tm) : spT (joinTm f x) acc = (match x with | some a => spT f (acc ++ [a]) | none => none) := by
  cases f with
  | none => cases x <;> rfl
  | some f =>
    obtain ⟨s, n, l⟩ := f
    cases s with
    | nil => cases x <;> rfl
    | cons c r => cases x with
      | none => rfl
      | some a => simp [joinTm, spT]
theorem isK2_ne {s : Str} (h : isK s 2 = true) : s ≠ [] := by
  rintro rfl; revert h; decide +kernel
theorem spT_nil {e : Ex} (hr : rEx e = true) (hk : exK e ≠ 3) : spT (ofT e) [] = ofT e := by
  obtain ⟨k, s, n, ps, xs, al, bs, l, c⟩ := e
  replace hk : k ≠ 3 := hk
  rw [ofT_eq, if_neg hk]
  by_cases h2 : k = 2
  · rw [if_pos h2]
    subst h2
    rw [rEx_eq] at hr
    simp only [Bool.and_eq_true] at hr
    have h := hr.2
    rw [if_neg (by decide), if_pos trivial] at h
    simp only [Bool.and_eq_true] at h
    have := isK2_ne h.2
    cases s with
    | nil => exact absurd rfl this
    | cons a r => rfl
  · rw [if_neg h2]
    by_cases h4 : k = 4
    · rw [if_neg (by simpa using h4)]
      match xs with
      | [] => rfl
      | [_] => rfl
      | [f, x] =>
        simp only
        generalize ofT f = a
        generalize ofT x = b
        cases a with
        | none => cases b <;> rfl
        | some a =>
          obtain ⟨s, n, l⟩ := a
          cases s with
          | nil => cases b <;> rfl
          | cons c r => cases b with
            | none => rfl
            | some b => simp [joinTm, spT]
      | _ :: _ :: _ :: _ => rfl
    · rw [if_pos h4]; rfl
/-- What is answered. -/
def resT (o : Option Tm) : V := .tup [.agg (tmQ (o.getD (.mk [] 0 []))), .bool o.isSome]

/-! ### Lists of objects. -/
theorem fix_rows' {m : Nat} {H : Heap} {d id ver sz n : Nat} {xs : List (List V)} (hid : m ≤ id) (hg : getCells H id ver = some xs.flatten) (hz : ∀ x ∈ xs, x.length = sz) (hn : n = xs.length) (hp : xs.flatten.all plain1 = true) :
    fixV m H (d + 2) (.hsl id ver 0 n sz) = some (.sl false sz (xs.map fun x => x.map inl0)) := by
  subst hn
  have hl : xs.flatten.length = xs.length * sz := flat_len hz
  simp only [fixV]
  rw [if_neg (by omega), hg, Option.bind_some]
  have hc : cut xs.flatten 0 (xs.length * sz) = some xs.flatten := by
    unfold cut
    rw [if_pos (by omega), List.drop_zero, List.take_of_length_le (by omega)]
  rw [hc, Option.bind_some, fixP_list (plainC_fix hp), Option.bind_some]
  unfold inl
  rw [if_pos hp, Option.map_some, List.map_flatten]
  have := chunks_of (sz := sz) (xs := xs.map fun x => x.map inl0) fun x hx => by
    obtain ⟨y, hy, rfl⟩ := List.mem_map.1 hx
    rw [List.length_map]; exact hz y hy
  rw [List.length_map] at this
  rw [this]
theorem put_flat {sz : Nat} {ys : List V} (hy : ys.length = sz) : ∀ {xs : List (List V)} {i : Nat}, (∀ x ∈ xs, x.length = sz) → i < xs.length → put xs.flatten (i * sz) ys = (xs.set i ys).flatten
  | [], i, _, h => by cases h
  | x :: xs, 0, hz, h => by
    have hx := hz x (List.mem_cons_self ..)
    unfold put
    rw [Nat.zero_mul, List.take_zero, List.nil_append, Nat.zero_add, hy, List.flatten_cons, ← hx, List.drop_left, List.set_cons_zero, List.flatten_cons]
  | x :: xs, i + 1, hz, h => by
    have hx := hz x (List.mem_cons_self ..)
    have ih := put_flat hy (xs := xs) (i := i) (fun y hy => hz y (List.mem_cons_of_mem _ hy)) (by simpa using h)
    unfold put at ih ⊢
    rw [List.flatten_cons, List.set_cons_succ, List.flatten_cons, ← ih]
    have e : (i + 1) * sz = x.length + i * sz := by rw [hx, Nat.succ_mul, Nat.add_comm]
    rw [e, List.take_length_add_append, Nat.add_assoc, List.drop_length_add_append]
    simp [List.append_assoc]
end Go.Proofs.YtoaohapbbnpbeaaGreat.Vm
namespace Go.Proofs.YtoaohapbbnpbeaaGreat.Vm
open Go Lx
set_option linter.unusedSimpArgs false

theorem sameTm (f : Nat) (step : ∀ n, (∀ a b : Tm, SizeOf.sizeOf a ≤ n → TmB a → TmB b → Pu f [.agg (tmC a), .agg (tmC b)] (.bool (eqB a b))) → ∀ a b : Tm, SizeOf.sizeOf a ≤ n + 1 → TmB a → TmB b → Pu f [.agg (tmC a), .agg (tmC b)] (.bool (eqB a b))) (a b : Tm) (ha : TmB a) (hb : TmB b) : Pu f [.agg (tmC a), .agg (tmC b)] (.bool (eqB a b)) := by
  suffices h : ∀ n, ∀ a b : Tm, SizeOf.sizeOf a ≤ n → TmB a → TmB b → Pu f [.agg (tmC a), .agg (tmC b)] (.bool (eqB a b)) from h _ a b (Nat.le_refl _) ha hb
  intro n
  induction n with
  | zero => rintro ⟨⟩ b h; simp at h
  | succ n ih => exact step n ih
theorem r14Same_P (a b : Tm) (ha : TmB a) (hb : TmB b) : Pu 10 [.agg (tmC a), .agg (tmC b)] (.bool (eqB a b)) := by
  refine sameTm _ ?_ a b ha hb
  rintro n ih ⟨s, m, xs⟩ ⟨s', m', xs'⟩ hn ha hb
  simp only [Tm.mk.sizeOf_spec] at hn
  cases ha with | mk a1 a2 => cases hb with | mk b1 b2 =>
  refine ⟨?_, by simp only [idsL, idsV, tmC_ids, Bool.and_self]⟩
  refine T.of0 mix c_r14_SameTerm rfl ?_
  unfold v_r14_SameTerm
  have hno : ¬ (Tm.mk s m xs = Tm.mk s' m' xs') → V.bool false = V.bool (eqB (Tm.mk s m xs) (Tm.mk s' m' xs')) := fun h => by rw [eqB_false h]
  have hyes : (Tm.mk s m xs = Tm.mk s' m' xs') → V.bool true = V.bool (eqB (Tm.mk s m xs) (Tm.mk s' m' xs')) := fun h => by rw [eqB_true h]
  simp only [Tm.mk.injEq] at hno hyes
  simp only [tmC_eq, go_sem, ↓reduceIte, callG_eq]
  generalize eqB (Tm.mk s m xs) (Tm.mk s' m' xs') = R at hno hyes
  refine ⟨fun hs => ⟨fun hm => ⟨fun hl => hno fun e => by rw [e.2.2] at hl; simp at hl, fun hl => ?_⟩, fun hm => hno fun e => hm (by rw [e.2.1]; simp)⟩, fun hs => hno fun e => hs (by rw [e.1]; simp)⟩
  have hs' : s = s' := by simpa using hs
  have hm' : m = m' := by simpa using hm
  have hl' : xs.length = xs'.length := by simp at hl; omega
  refine WP.range (n := xs.length) (fun i E F => F = [.cells 0 [.str s, .int .i64 m, .sl false 3 (xs.map tmC)], .cells 0 [.str s', .int .i64 m', .sl false 3 (xs'.map tmC)]] ∧ xs.take i = xs'.take i ∧ ∃ ex, E = ⟨(2, .ptr 0 0 0) :: (3, .ptr 1 0 0) :: (5, .int .i64 i) :: ex, .u⟩) ⟨rfl, rfl, _, rfl⟩ ?_
  rintro i E F hi ⟨rfl, htk, ex, rfl⟩
  have hw := inc64 (i := i) (by omega)
  simp only [go_sem, ↓reduceIte, ↓ex_map, ↓run_addW, hw, Int.toNat_natCast, lt_len]
  refine ⟨fun hlt => ?_, fun hge => hyes ⟨hs', hm', take_all htk (by simpa using hge) hl'⟩⟩
  obtain ⟨x, hg, hxm⟩ := getL hlt
  obtain ⟨y, hg', hym⟩ := getL (show i < xs'.length by omega)
  have hsz := List.sizeOf_lt_of_mem hxm
  have hnx := take_next htk hg hg'
  have hne := take_ne hg hg'
  have hT := ih x y (by omega) (a2 x hxm) (b2 y hym)
  simp only [go_sem, ↓reduceIte, ↓ex_map, ↓run_addW, hw, Int.toNat_natCast, lt_len, hg, hg', Nat.le_refl, callG_eq]
  refine hT.call (by simp only [go_sem]) ?_
  simp only [go_sem, ↓reduceIte, ↓run_addW, hw, Bool.not_eq_true', Bool.not_eq_false']
  refine ⟨fun h => hno fun e => hne (fun e2 => by rw [eqB_true e2] at h; cases h) e.2.2, fun h => ⟨hlt, hnx.2 (eqB_iff.1 (by simpa using h)), _, rfl⟩⟩
theorem tmSame_P (a b : Tm) (ha : TmB a) (hb : TmB b) : Pu 23 [.agg (tmC a), .agg (tmC b)] (.bool (eqB a b)) := by
  refine sameTm _ ?_ a b ha hb
  rintro n ih ⟨s, m, xs⟩ ⟨s', m', xs'⟩ hn ha hb
  simp only [Tm.mk.sizeOf_spec] at hn
  cases ha with | mk a1 a2 => cases hb with | mk b1 b2 =>
  refine ⟨?_, by simp only [idsL, idsV, tmC_ids, Bool.and_self]⟩
  refine T.of0 mix c_term_Same rfl ?_
  unfold v_term_Same
  have hno : ¬ (Tm.mk s m xs = Tm.mk s' m' xs') → V.bool false = V.bool (eqB (Tm.mk s m xs) (Tm.mk s' m' xs')) := fun h => by rw [eqB_false h]
  have hyes : (Tm.mk s m xs = Tm.mk s' m' xs') → V.bool true = V.bool (eqB (Tm.mk s m xs) (Tm.mk s' m' xs')) := fun h => by rw [eqB_true h]
  simp only [Tm.mk.injEq] at hno hyes
  simp only [tmC_eq, go_sem, ↓reduceIte, callG_eq]
  generalize eqB (Tm.mk s m xs) (Tm.mk s' m' xs') = R at hno hyes
  refine ⟨fun hs => ⟨fun hm => ⟨fun hl => hno fun e => by rw [e.2.2] at hl; simp at hl, fun hl => ?_⟩, fun hm => hno fun e => hm (by rw [e.2.1]; simp)⟩, fun hs => hno fun e => hs (by rw [e.1]; simp)⟩
  have hs' : s = s' := by simpa using hs
  have hm' : m = m' := by simpa using hm
  have hl' : xs.length = xs'.length := by simp at hl; omega
  refine WP.range (n := xs.length) (fun i E F => F = [.cells 0 [.str s, .int .i64 m, .sl false 3 (xs.map tmC)], .cells 0 [.str s', .int .i64 m', .sl false 3 (xs'.map tmC)]] ∧ xs.take i = xs'.take i ∧ ∃ ex, E = ⟨(2, .ptr 0 0 0) :: (3, .ptr 1 0 0) :: (29, .int .i64 xs.length) :: (30, .int .i64 i) :: ex, .u⟩) ⟨rfl, rfl, _, rfl⟩ ?_
  rintro i E F hi ⟨rfl, htk, ex, rfl⟩
  have hw := inc64 (i := i) (by omega)
  simp only [go_sem, ↓reduceIte, ↓ex_map, ↓run_addW, hw, Int.toNat_natCast, lt_len]
  refine ⟨fun hlt => ?_, fun hge => hyes ⟨hs', hm', take_all htk (by simpa using hge) hl'⟩⟩
  obtain ⟨x, hg, hxm⟩ := getL hlt
  obtain ⟨y, hg', hym⟩ := getL (show i < xs'.length by omega)
  have hsz := List.sizeOf_lt_of_mem hxm
  have hnx := take_next htk hg hg'
  have hne := take_ne hg hg'
  have hT := ih x y (by omega) (a2 x hxm) (b2 y hym)
  simp only [go_sem, ↓reduceIte, ↓ex_map, ↓run_addW, hw, Int.toNat_natCast, lt_len, hg, hg', Nat.le_refl, callG_eq]
  refine hT.call (by simp only [go_sem]) ?_
  simp only [go_sem, ↓reduceIte, ↓run_addW, hw, Bool.not_eq_true', Bool.not_eq_false']
  refine ⟨fun h => hno fun e => hne (fun e2 => by rw [eqB_true e2] at h; cases h) e.2.2, fun h => ⟨hlt, hnx.2 (eqB_iff.1 (by simpa using h)), _, rfl⟩⟩
end Go.Proofs.YtoaohapbbnpbeaaGreat.Vm
namespace Go.Proofs.YtoaohapbbnpbeaaGreat.Vm
open Go Lx
set_option linter.unusedSimpArgs false

/-- How many terms a term is made of. -/
def cntT : Tm → Nat
  | .mk _ _ xs => 1 + (xs.map cntT).sum
theorem cntT_eq (s : Str) (n : Int) (xs : List Tm) : cntT (.mk s n xs) = 1 + (xs.map cntT).sum := by rw [cntT]
def rTm : Tm → Bool
  | .mk s n xs => (xs.map rTm).all id && (s.isEmpty && xs.isEmpty || n == 0 && isK s 2)
theorem rTm_eq (s : Str) (n : Int) (xs : List Tm) : rTm (.mk s n xs) = (xs.all rTm && (s.isEmpty && xs.isEmpty || n == 0 && isK s 2)) := by rw [rTm, all_map]
theorem sum_take {l : List Tm} {f : Tm → Nat} {i : Nat} {x : Tm} (h : l[i]? = some x) : ((l.take (i + 1)).map f).sum = ((l.take i).map f).sum + f x := by
  rw [List.take_add_one, h]; simp
theorem wide_P (n : Nat) : ∀ (t : Tm) (m : Nat), SizeOf.sizeOf t ≤ n → TmB t → m ≤ 1048576 → Pu 29 [.agg (tmC t), .int .i64 m] (.int .i64 (min (cntT t) (m + 1) : Nat)) := by
  induction n with
  | zero => rintro ⟨⟩ m h; simp at h
  | succ n ih =>
    rintro ⟨s, k, xs⟩ m hn hB hm
    simp only [Tm.mk.sizeOf_spec] at hn
    cases hB with | mk b1 b2 =>
    refine ⟨?_, by simp only [idsL, idsV, tmC_ids, Bool.and_self]⟩
    refine T.of0 mix c_r19_Wide rfl ?_
    unfold v_r19_Wide
    simp only [tmC_eq, go_sem, ↓reduceIte, callG_eq]
    refine WP.range (n := xs.length) (fun i E F => F = [.cells 0 [.str s, .int .i64 k, .sl false 3 (xs.map tmC)]] ∧ ∃ ex, E = ⟨(1, .int .i64 m) :: (2, .ptr 0 0 0) :: (5, .int .i64 (min (1 + ((xs.take i).map cntT).sum) (m + 1) : Nat)) :: (6, .int .i64 i) :: ex, .u⟩) ⟨rfl, [], by simp⟩ ?_
    rintro i E F hi ⟨rfl, ex, rfl⟩
    have hw := inc64 (i := i) (by omega)
    simp only [go_sem, ↓reduceIte, ↓ex_map, ↓run_addW, ↓run_subW, hw, Int.toNat_natCast, lt_len]
    have hall : ((xs.take i).map cntT).sum ≤ (xs.map cntT).sum := by
      conv => rhs; rw [← List.take_append_drop i xs, List.map_append, List.sum_append]
      omega
    rw [cntT_eq]
    generalize hS : ((xs.take i).map cntT).sum = S at hall ⊢
    refine ⟨fun hlt => ⟨fun hle => ?_, fun hle => ?_⟩, fun hge => ?_⟩
    · obtain ⟨x, hg, hxm⟩ := getL hlt
      have hsz := List.sizeOf_lt_of_mem hxm
      have hnx := sum_take (f := cntT) hg
      rw [hS] at hnx
      have hSm : 1 + S ≤ m := by simp only [Nat.min_def] at hle; split at hle <;> omega
      have e1 : min (1 + S) (m + 1) = 1 + S := Nat.min_eq_left (by omega)
      have e2 : IntKind.i64.wrap ((m : Int) - ((1 + S : Nat) : Int)) = ((m - (1 + S) : Nat) : Int) := by rw [wrap64 (by omega) (by omega)]; omega
      have hT := ih x (m - (1 + S)) (by omega) (b2 x hxm) (by omega)
      rw [e1, e2]
      refine ⟨x, hg, _, _, hT.at (by simp only [go_sem]) _, ?_⟩
      have e3 : IntKind.i64.wrap (((1 + S : Nat) : Int) + ((min (cntT x) (m - (1 + S) + 1) : Nat) : Int)) = ((min (1 + (S + cntT x)) (m + 1) : Nat) : Int) := by
        rw [wrap64 (by omega) (by omega)]; simp only [Nat.min_def]; split <;> split <;> omega
      simp only [go_sem, ↓reduceIte, ↓ex_map, ↓run_addW, ↓run_subW, hw, e3]
      exact ⟨hlt, [], by rw [hnx]⟩
    · have : min (1 + S) (m + 1) = min (1 + (xs.map cntT).sum) (m + 1) := by simp only [Nat.min_def] at hle ⊢; split at hle <;> split <;> split <;> omega
      rw [this]
    · rw [List.take_of_length_le (by omega)] at hS
      rw [hS]
theorem rEx_con (s : Str) : rEx (.mk 2 s 0 [] [] [] [] 0 0) = isK s 2 := by simp [rEx_eq]
theorem r19Right_P (n : Nat) : ∀ t : Tm, SizeOf.sizeOf t ≤ n → TmB t → Pu 16 [.agg (tmC t)] (.bool (rTm t)) := by
  induction n with
  | zero => rintro ⟨⟩ h; simp at h
  | succ n ih =>
    rintro ⟨s, k, xs⟩ hn hB
    simp only [Tm.mk.sizeOf_spec] at hn
    cases hB with | mk b1 b2 =>
    have hI := rIs_P s 2
    refine ⟨?_, by simp only [idsL, idsV, tmC_ids, Bool.and_self]⟩
    refine T.of0 mix c_r19_Right rfl ?_
    unfold v_r19_Right
    simp only [tmC_eq, go_sem, ↓reduceIte, callG_eq]
    rw [rTm_eq]
    refine WP.range (n := xs.length) (fun i E F => F = [.cells 0 [.str s, .int .i64 k, .sl false 3 (xs.map tmC)]] ∧ xs.all rTm = (xs.drop i).all rTm ∧ ∃ ex, E = ⟨(1, .ptr 0 0 0) :: (3, .int .i64 i) :: ex, .u⟩) ⟨rfl, rfl, [], rfl⟩ ?_
    rintro i E F hi ⟨rfl, hall, ex, rfl⟩
    have hw := inc64 (i := i) (by omega)
    simp only [go_sem, ↓reduceIte, ↓ex_map, ↓run_addW, hw, Int.toNat_natCast, lt_len, callG_eq]
    refine ⟨fun hlt => ?_, fun hge => ?_⟩
    · obtain ⟨x, hg, hxm⟩ := getL hlt
      have hsz := List.sizeOf_lt_of_mem hxm
      have hT := ih x (by omega) (b2 x hxm)
      have hd : (xs.drop i).all rTm = (rTm x && (xs.drop (i + 1)).all rTm) := by
        rw [List.drop_eq_getElem_cons hlt, List.all_cons]
        rw [List.getElem?_eq_getElem hlt] at hg
        rw [Option.some.inj hg]
      refine ⟨x, hg, hT.call (by simp only [go_sem]) ?_⟩
      rw [hd] at hall
      cases hx : rTm x with
      | false =>
        rw [hx] at hall
        rw [hall]
        simp only [go_sem, ↓reduceIte, ↓ex_map, ↓run_addW, hw]
        simp
      | true =>
        rw [hx] at hall
        simp only [go_sem, ↓reduceIte, ↓ex_map, ↓run_addW, hw]
        simp [hlt, hall]
    · rw [List.drop_of_length_le (by omega)] at hall
      rw [hall]
      simp only [go_sem, ↓reduceIte, ↓ex_map, len_eq0, callG_eq]
      have hK : s = [] → isK s 2 = false := fun e => by
        cases h : isK s 2 with
        | false => rfl
        | true => exact absurd e (isK2_ne h)
      have hE : s.isEmpty = (s == []) := by cases s <;> rfl
      clear hall
      repeat' first
        | apply And.intro
        | intro _
        | (refine hI.call ?_ ?_; · simp only [go_sem]; done
           try simp only [go_sem])
        | fail
      all_goals (clear hI ih; simp_all)
theorem tmRight_P (n : Nat) : ∀ t : Tm, SizeOf.sizeOf t ≤ n → TmB t → Pu 18 [.agg (tmC t)] (.bool (rTm t)) := by
  induction n with
  | zero => rintro ⟨⟩ h; simp at h
  | succ n ih =>
    rintro ⟨s, k, xs⟩ hn hB
    simp only [Tm.mk.sizeOf_spec] at hn
    cases hB with | mk b1 b2 =>
    have hI := showEx_P (.mk 2 s 0 [] [] [] [] 0 0) (.mk (by simp) (by simp) (by simp) (by simp) (fun _ h => by cases h) (fun _ h => by cases h) (fun _ h => by cases h))
    rw [rEx_con] at hI
    refine ⟨?_, by simp only [idsL, idsV, tmC_ids, Bool.and_self]⟩
    refine T.of0 mix c_term_Right rfl ?_
    unfold v_term_Right
    simp only [tmC_eq, go_sem, ↓reduceIte, callG_eq, len_eq0]
    rw [rTm_eq]
    have hK : s = [] → isK s 2 = false := fun e => by
      cases h : isK s 2 with
      | false => rfl
      | true => exact absurd e (isK2_ne h)
    have hE : s.isEmpty = (s == []) := by cases s <;> rfl
    refine ⟨fun h => ?_, fun h => ⟨fun hk => hI.call (by simp only [exC_eq, go_sem]) ?_, fun hk => ?_⟩⟩
    · have hs : s = [] := by simpa using h
      rw [hE, h, hK hs]
      cases xs <;> simp
    · rw [hE, h]
      have hk' : k = 0 := by simpa using hk
      subst hk'
      cases hx : isK s 2 with
      | false =>
        simp only [go_sem, ↓reduceIte, ↓ex_map]
        simp
      | true =>
        simp only [go_sem, ↓reduceIte, ↓ex_map]
        refine WP.range (n := xs.length) (fun i E F => xs.all rTm = (xs.drop i).all rTm ∧ ∃ ex, E = ⟨(23, .sl false 3 (xs.map tmC)) :: (24, .int .i64 xs.length) :: (25, .int .i64 i) :: ex, .u⟩) ⟨rfl, [], rfl⟩ ?_
        rintro i E F hi ⟨hall, ex, rfl⟩
        have hw := inc64 (i := i) (by omega)
        simp only [go_sem, ↓reduceIte, ↓ex_map, ↓run_addW, hw, Int.toNat_natCast, lt_len, callG_eq]
        refine ⟨fun hlt => ?_, fun hge => ?_⟩
        · obtain ⟨x, hg, hxm⟩ := getL hlt
          have hsz := List.sizeOf_lt_of_mem hxm
          have hT := ih x (by omega) (b2 x hxm)
          have hd : (xs.drop i).all rTm = (rTm x && (xs.drop (i + 1)).all rTm) := by
            rw [List.drop_eq_getElem_cons hlt, List.all_cons]
            rw [List.getElem?_eq_getElem hlt] at hg
            rw [Option.some.inj hg]
          rw [hd] at hall
          simp only [go_sem, ↓reduceIte, ↓ex_map, ↓run_addW, hw, hg, gc_app0, gc_appN, set_app0, set_appN, callG_eq]
          refine hT.call (by simp only [go_sem]) ?_
          cases hx : rTm x with
          | false =>
            rw [hx] at hall
            rw [hall]
            simp only [go_sem, ↓reduceIte, ↓ex_map, ↓run_addW, hw]
            simp
          | true =>
            rw [hx] at hall
            simp only [go_sem, ↓reduceIte, ↓ex_map, ↓run_addW, hw]
            simp [hlt, hall]
        · rw [List.drop_of_length_le (by omega)] at hall
          rw [hall]
          simp
    · rw [hE, h]
      have hk' : (k == 0) = false := by simpa using hk
      rw [hk']; simp
end Go.Proofs.YtoaohapbbnpbeaaGreat.Vm
namespace Go.Proofs.YtoaohapbbnpbeaaGreat.Vm
open Go Lx
set_option linter.unusedSimpArgs false

inductive TmN : Tm → Prop
  | mk {s n xs} (h : -9223372036854775808 ≤ n ∧ n < 9223372036854775808) (hx : ∀ x ∈ xs, TmN x) : TmN (.mk s n xs)
def szP : Tm → Nat
  | .mk s n xs => min 1073741824 (1 + (if s = [] then min n.natAbs 1073741824 else 0) + (xs.map szP).sum)
theorem szP_eq (s : Str) (n : Int) (xs : List Tm) : szP (.mk s n xs) = min 1073741824 (1 + (if s = [] then min n.natAbs 1073741824 else 0) + (xs.map szP).sum) := by rw [szP]
theorem szP_le (t : Tm) : szP t ≤ 1073741824 := by cases t; rw [szP_eq]; exact Nat.min_le_left ..
@[go_sem] theorem run_min {P : Program} {K : KK} {s : List Fr} {E : En} {H : Heap} {tk : List Nat} {dst : Option Nat} {os : List VOp} {keep : List Nat} {j k : IntKind} {a b : Int} : runAct P .min [.int j a, .int k b] tk dst os keep s E H K = (j = k ∧ nextV P (.int j (if b < a then b else a)) tk dst os keep s E H K) := (rfl)
theorem magn_P (n : Int) : Pu 67 [.int .i64 n] (.int .i64 (min n.natAbs 1073741824 : Nat)) := by
  refine ⟨?_, rfl⟩
  refine T.of0 mix c_term_magnitude rfl ?_
  unfold v_term_magnitude
  simp only [go_sem, ↓reduceIte, ↓run_negW]
  refine ⟨fun h1 => ⟨fun h2 => ?_, fun h2 => ⟨fun h3 => ?_, fun h3 => ?_⟩⟩, fun h1 => ?_⟩
  · congr 1; simp only [Nat.min_def]; split <;> omega
  · have e : IntKind.i64.wrap (0 - n) = ((min n.natAbs 1073741824 : Nat) : Int) := by rw [wrap64 (by omega) (by omega)]; simp only [Nat.min_def]; split <;> omega
    simp only [go_sem, ↓reduceIte, e]
  · congr 1; simp only [Nat.min_def]; split <;> omega
  · congr 1; simp only [Nat.min_def]; split <;> omega
theorem r01Size_P (n : Int) (h : -9223372036854775808 ≤ n ∧ n < 9223372036854775808) : Pu 34 [.int .i64 n] (.int .u64 (n.natAbs : Int)) := by
  refine ⟨?_, rfl⟩
  refine T.of0 mix c_r01_Size rfl ?_
  unfold v_r01_Size
  simp only [go_sem, ↓reduceIte, ↓run_convW, ↓run_subW]
  refine ⟨fun h1 => ?_, fun h1 => ?_⟩
  · have e : IntKind.u64.wrap (0 - IntKind.u64.wrap n) = (n.natAbs : Int) := by
      have e1 : IntKind.u64.wrap n = n + 18446744073709551616 := by simp [IntKind.wrap, IntKind.bits, IntKind.signed]; omega
      rw [e1]
      simp [IntKind.wrap, IntKind.bits, IntKind.signed]; omega
    rw [e]
  · rw [wrapU64 (by omega) (by omega)]; congr 1; omega
theorem tmSize_P (n : Nat) : ∀ t : Tm, SizeOf.sizeOf t ≤ n → TmB t → Pu 33 [.agg (tmC t)] (.int .i64 (szP t : Nat)) := by
  induction n with
  | zero => rintro ⟨⟩ h; simp at h
  | succ n ih =>
    rintro ⟨s, k, xs⟩ hn hB
    simp only [Tm.mk.sizeOf_spec] at hn
    cases hB with | mk b1 b2 =>
    have hM := magn_P k
    refine ⟨?_, by simp only [idsL, idsV, tmC_ids, Bool.and_self]⟩
    refine T.of0 mix c_term_size rfl ?_
    unfold v_term_size
    simp only [tmC_eq, go_sem, ↓reduceIte, callG_eq]
    rw [szP_eq]
    refine ⟨fun hs => hM.call (by simp only [go_sem]) ?_, fun hs => ?_⟩
    · have hs' : s = [] := by simpa using hs
      have hm : min k.natAbs 1073741824 ≤ 1073741824 := Nat.min_le_right ..
      rw [if_pos hs']
      generalize min k.natAbs 1073741824 = m at hm ⊢
      have e0 : IntKind.i64.wrap (1 + (m : Int)) = ((1 + m : Nat) : Int) := by rw [wrap64 (by omega) (by omega)]; omega
      simp only [go_sem, ↓reduceIte, ↓ex_map, ↓run_addW, e0]
      refine WP.range (n := xs.length) (fun i E F => ∃ q : Nat, q ≤ 1073741825 ∧ min 1073741824 q = min 1073741824 (1 + m + ((xs.take i).map szP).sum) ∧ ∃ ex, E = ⟨(3, .int .i64 q) :: (15, .sl false 3 (xs.map tmC)) :: (16, .int .i64 xs.length) :: (17, .int .i64 i) :: ex, .u⟩) ⟨_, by omega, by simp, [], rfl⟩ ?_
      rintro i E F hi ⟨q, hq, hqs, ex, rfl⟩
      have hw := inc64 (i := i) (by omega)
      simp only [go_sem, ↓reduceIte, ↓ex_map, ↓run_addW, hw, Int.toNat_natCast, lt_len, callG_eq]
      refine ⟨fun hlt => ?_, fun hge => ?_⟩
      · obtain ⟨x, hg, hxm⟩ := getL hlt
        have hsz := List.sizeOf_lt_of_mem hxm
        have hT := ih x (by omega) (b2 x hxm)
        have hx := szP_le x
        have hnx := sum_take (f := szP) hg
        have e1 : IntKind.i64.wrap ((q : Int) + (szP x : Nat)) = ((q + szP x : Nat) : Int) := by rw [wrap64 (by omega) (by omega)]; omega
        have e2 : (if ((q + szP x : Nat) : Int) < 1073741824 then ((q + szP x : Nat) : Int) else 1073741824) = ((min 1073741824 (q + szP x) : Nat) : Int) := by simp only [Nat.min_def]; split <;> split <;> omega
        simp only [go_sem, ↓reduceIte, ↓ex_map, ↓run_addW, hw, hg, gc_app0, gc_appN, set_app0, set_appN, callG_eq]
        refine hT.call (by simp only [go_sem]) ?_
        simp only [go_sem, ↓reduceIte, ↓ex_map, ↓run_addW, hw, e1, ↓e2]
        refine ⟨hlt, _, ?_, ?_, _, rfl⟩
        · omega
        · rw [hnx]; simp only [Nat.min_def] at hqs ⊢; split at hqs <;> split at hqs <;> split <;> split <;> (try split) <;> omega
      · rw [List.take_of_length_le (by omega)] at hqs
        have e2 : (if (q : Int) < 1073741824 then (q : Int) else 1073741824) = ((min 1073741824 q : Nat) : Int) := by simp only [Nat.min_def]; split <;> split <;> omega
        rw [← hqs]
        try simp only [go_sem, ↓e2]
        first | done | rw [e2]
    · have hs' : ¬ s = [] := by simpa using hs
      rw [if_neg hs']
      refine WP.range (n := xs.length) (fun i E F => ∃ q : Nat, q ≤ 1073741825 ∧ min 1073741824 q = min 1073741824 (1 + 0 + ((xs.take i).map szP).sum) ∧ ∃ ex, E = ⟨(3, .int .i64 q) :: (15, .sl false 3 (xs.map tmC)) :: (16, .int .i64 xs.length) :: (17, .int .i64 i) :: ex, .u⟩) ⟨1, by omega, by simp, [], rfl⟩ ?_
      rintro i E F hi ⟨q, hq, hqs, ex, rfl⟩
      have hw := inc64 (i := i) (by omega)
      simp only [go_sem, ↓reduceIte, ↓ex_map, ↓run_addW, hw, Int.toNat_natCast, lt_len, callG_eq]
      refine ⟨fun hlt => ?_, fun hge => ?_⟩
      · obtain ⟨x, hg, hxm⟩ := getL hlt
        have hsz := List.sizeOf_lt_of_mem hxm
        have hT := ih x (by omega) (b2 x hxm)
        have hx := szP_le x
        have hnx := sum_take (f := szP) hg
        have e1 : IntKind.i64.wrap ((q : Int) + (szP x : Nat)) = ((q + szP x : Nat) : Int) := by rw [wrap64 (by omega) (by omega)]; omega
        have e2 : (if ((q + szP x : Nat) : Int) < 1073741824 then ((q + szP x : Nat) : Int) else 1073741824) = ((min 1073741824 (q + szP x) : Nat) : Int) := by simp only [Nat.min_def]; split <;> split <;> omega
        simp only [go_sem, ↓reduceIte, ↓ex_map, ↓run_addW, hw, hg, gc_app0, gc_appN, set_app0, set_appN, callG_eq]
        refine hT.call (by simp only [go_sem]) ?_
        simp only [go_sem, ↓reduceIte, ↓ex_map, ↓run_addW, hw, e1, ↓e2]
        refine ⟨hlt, _, ?_, ?_, _, rfl⟩
        · omega
        · rw [hnx]; simp only [Nat.min_def] at hqs ⊢; split at hqs <;> split at hqs <;> split <;> split <;> (try split) <;> omega
      · rw [List.take_of_length_le (by omega)] at hqs
        have e2 : (if (q : Int) < 1073741824 then (q : Int) else 1073741824) = ((min 1073741824 q : Nat) : Int) := by simp only [Nat.min_def]; split <;> split <;> omega
        rw [← hqs]
        try simp only [go_sem, ↓e2]
        first | done | rw [e2]
end Go.Proofs.YtoaohapbbnpbeaaGreat.Vm
namespace Go.Proofs.YtoaohapbbnpbeaaGreat.Vm
open Go Lx
set_option linter.unusedSimpArgs false

def szT (t : Tm) : Nat := if rTm t = true then szP t else 0
theorem szT_le (t : Tm) : szT t ≤ 1073741824 := by
  unfold szT; split
  · exact szP_le t
  · omega
theorem tmSizeX_P (t : Tm) (hB : TmB t) : Pu 19 [.agg (tmC t)] (.int .i64 (szT t : Nat)) := by
  have hR := tmRight_P _ t (Nat.le_refl _) hB
  have hS := tmSize_P _ t (Nat.le_refl _) hB
  refine ⟨?_, by simp only [idsL, idsV, tmC_ids, Bool.and_self]⟩
  refine T.of0 mix c_term_Size rfl ?_
  unfold v_term_Size szT
  simp only [go_sem, ↓reduceIte, callG_eq]
  refine hR.call (by simp only [go_sem]) ?_
  cases hr : rTm t with
  | false => simp only [go_sem, ↓reduceIte]; rfl
  | true =>
    simp only [go_sem, ↓reduceIte, callG_eq]
    refine hS.call (by simp only [go_sem]) ?_
    simp only [go_sem, ↓reduceIte]
theorem rTm_sub {s : Str} {k : Int} {xs : List Tm} (h : rTm (.mk s k xs) = true) : (∀ x ∈ xs, rTm x = true) ∧ (s = [] → xs = []) := by
  rw [rTm_eq] at h
  simp only [Bool.and_eq_true, List.all_eq_true, Bool.or_eq_true] at h
  refine ⟨h.1, fun e => ?_⟩
  rcases h.2 with h2 | h2
  · simpa using h2.2
  · exact absurd e (isK2_ne h2.2)
theorem r19Size_P (n : Nat) : ∀ t : Tm, SizeOf.sizeOf t ≤ n → TmB t → TmN t → Pu 20 [.agg (tmC t)] (.int .i64 (szT t : Nat)) := by
  induction n with
  | zero => rintro ⟨⟩ h; simp at h
  | succ n ih =>
    rintro ⟨s, k, xs⟩ hn hB hN
    have hR := r19Right_P _ _ (Nat.le_refl _) hB
    simp only [Tm.mk.sizeOf_spec] at hn
    cases hB with | mk b1 b2 => cases hN with | mk n1 n2 =>
    have hM := r01Size_P k n1
    refine ⟨?_, by simp only [idsL, idsV, tmC_ids, Bool.and_self]⟩
    refine T.of0 mix c_r19_Size rfl ?_
    unfold v_r19_Size
    simp only [go_sem, ↓reduceIte, callG_eq]
    refine hR.call (by simp only [go_sem]) ?_
    cases hr : rTm (.mk s k xs) with
    | false =>
      have e : szT (.mk s k xs) = 0 := by unfold szT; rw [hr]; simp
      rw [e]
      simp only [go_sem, ↓reduceIte]; rfl
    | true =>
      obtain ⟨hs1, hs2⟩ := rTm_sub hr
      have e : szT (.mk s k xs) = min 1073741824 (1 + (if s = [] then min k.natAbs 1073741824 else 0) + (xs.map szP).sum) := by unfold szT; rw [hr, if_pos rfl, szP_eq]
      rw [e]
      simp only [tmC_eq, go_sem, ↓reduceIte, callG_eq]
      refine ⟨fun hs => hM.call (by simp only [go_sem]) ?_, fun hs => ?_⟩
      · have hs' : s = [] := by simpa using hs
        obtain rfl := hs2 hs'
        rw [if_pos hs']
        have e0 : IntKind.u64.wrap (1 + (k.natAbs : Int)) = ((1 + k.natAbs : Nat) : Int) := by rw [wrapU64 (by omega) (by omega)]; omega
        simp only [go_sem, ↓reduceIte, ↓ex_map, ↓run_addW, e0, List.map_nil, List.length_nil]
        refine WP.range (n := 0) (fun i E F => i = 0 ∧ F = [.cells 0 [.str s, .int .i64 k, .sl false 3 []]] ∧ E = ⟨[(1, .ptr 0 0 0), (3, .int .u64 (1 + k.natAbs : Nat)), (4, .int .i64 0)], .u⟩) ⟨rfl, rfl, rfl⟩ ?_
        rintro i E F _ ⟨rfl, rfl, rfl⟩
        simp only [go_sem, ↓reduceIte, ↓ex_map, List.length_nil, ↓run_convW]
        have e1 : min 1073741824 (1 + min k.natAbs 1073741824 + ([] : List Nat).sum) = min 1073741824 (1 + k.natAbs) := by simp only [List.sum_nil, Nat.min_def]; split <;> split <;> (try split) <;> omega
        rw [e1]
        refine ⟨fun h => absurd h (by decide), fun _ => ⟨fun h => ?_, fun h => ?_⟩⟩
        · congr 1; simp only [Nat.min_def]; split <;> omega
        · rw [wrap64 (by omega) (by omega)]; congr 1; simp only [Nat.min_def]; split <;> omega
      · have hs' : ¬ s = [] := by simpa using hs
        rw [if_neg hs']
        refine WP.range (n := xs.length) (fun i E F => F = [.cells 0 [.str s, .int .i64 k, .sl false 3 (xs.map tmC)]] ∧ ∃ q : Nat, q ≤ 1073741824 ∧ q = 1 + ((xs.take i).map szP).sum ∧ ∃ ex, E = ⟨(1, .ptr 0 0 0) :: (3, .int .u64 q) :: (4, .int .i64 i) :: ex, .u⟩) ⟨rfl, 1, by omega, by simp, [], rfl⟩ ?_
        rintro i E F hi ⟨rfl, q, hq, hqs, ex, rfl⟩
        have hw := inc64 (i := i) (by omega)
        simp only [go_sem, ↓reduceIte, ↓ex_map, ↓run_addW, hw, Int.toNat_natCast, lt_len, callG_eq]
        refine ⟨fun hlt => ?_, fun hge => ?_⟩
        · obtain ⟨x, hg, hxm⟩ := getL hlt
          have hsz := List.sizeOf_lt_of_mem hxm
          have hT := ih x (by omega) (b2 x hxm) (n2 x hxm)
          have ex1 : szT x = szP x := by unfold szT; rw [if_pos (hs1 x hxm)]
          rw [ex1] at hT
          have hx := szP_le x
          have hnx := sum_take (f := szP) hg
          have hall : ((xs.take (i + 1)).map szP).sum ≤ (xs.map szP).sum := by
            conv => rhs; rw [← List.take_append_drop (i + 1) xs, List.map_append, List.sum_append]
            omega
          have e0 : IntKind.u64.wrap ((szP x : Nat) : Int) = ((szP x : Nat) : Int) := wrapU64 (by omega) (by omega)
          have e1 : IntKind.u64.wrap ((q : Int) + (szP x : Nat)) = ((q + szP x : Nat) : Int) := by rw [wrapU64 (by omega) (by omega)]; omega
          refine ⟨x, hg, hT.call (by simp only [go_sem]) ?_⟩
          simp only [go_sem, ↓reduceIte, ↓ex_map, ↓run_addW, ↓run_convW, hw, e0, e1]
          refine ⟨fun h => ?_, fun h => ⟨hlt, _, ?_, ?_, _, rfl⟩⟩
          · congr 1; simp only [Nat.min_def]; split <;> omega
          · omega
          · rw [hnx]; omega
        · rw [List.take_of_length_le (by omega)] at hqs
          simp only [go_sem, ↓reduceIte, ↓ex_map, ↓run_convW]
          refine ⟨fun h => ?_, fun h => ?_⟩
          · congr 1; simp only [Nat.min_def]; split <;> omega
          · rw [wrap64 (by omega) (by omega)]; congr 1; simp only [Nat.min_def]; split <;> omega
end Go.Proofs.YtoaohapbbnpbeaaGreat.Vm
namespace Go.Proofs.YtoaohapbbnpbeaaGreat.Vm
open Go Lx
set_option linter.unusedSimpArgs false

def exE (k : Int) (s : Str) (n : Int) (xs : List Ex) : Ex := .mk k s n [] xs [] [] 0 0
/-- The expression that is a list of expressions behind a head. -/
structure XR where
  k : Int
  s : Str
  n : Int
  xs : List Ex
def XR.ex (r : XR) : Ex := exE r.k r.s r.n r.xs
def XR.cc (o : Bool) (r : XR) : List V := [.int .i64 r.k, .str r.s, .int .i64 r.n, .sl o 1 [], .sl o 9 (r.xs.map exC), .sl o 7 [], .nilh 4, .int .i64 0, .int .i64 0]
def XR.v (r : XR) : V := .agg (r.cc true)
theorem XR.v_eq (r : XR) : r.v = .agg (r.cc true) := rfl
theorem XR.cc_eq (o : Bool) (r : XR) : r.cc o = [.int .i64 r.k, .str r.s, .int .i64 r.n, .sl o 1 [], .sl o 9 (r.xs.map exC), .sl o 7 [], .nilh 4, .int .i64 0, .int .i64 0] := rfl
def appX (f : XR) (a : XR) : XR := ⟨4, [], 0, [f.ex, a.ex]⟩
def xT : Tm → XR
  | .mk s n xs => if s = [] then ⟨3, [], n, []⟩ else (xs.map xT).foldl appX ⟨2, s, 0, []⟩
theorem xT_eq (s : Str) (n : Int) (xs : List Tm) : xT (.mk s n xs) = if s = [] then ⟨3, [], n, []⟩ else (xs.map xT).foldl appX ⟨2, s, 0, []⟩ := by rw [xT]
theorem fold_take {xs : List Tm} {i : Nat} {x : Tm} (h : xs[i]? = some x) (r : XR) : ((xs.take (i + 1)).map xT).foldl appX r = appX (((xs.take i).map xT).foldl appX r) (xT x) := by
  rw [List.take_add_one, h]; simp
section
variable {r : XR} {o : Bool} {H : Heap}
@[go_sem] theorem xrC_p1 : (r.cc o).all plain1 = true := (rfl)
@[go_sem] theorem xrC_pc : (r.cc o).all plainC = true := (rfl)
@[go_sem] theorem xrC_fix : (r.cc o).all fixP = true := (rfl)
@[go_sem] theorem xrC_strip : (r.cc o).map strip0 = r.cc false := (rfl)
@[go_sem] theorem xrC_len : (r.cc o).length = 9 := (rfl)
@[go_sem] theorem xrC_take : List.take 9 (r.cc o) = r.cc o := (rfl)
@[go_sem] theorem xrC_inl : (r.cc o).map inl0 = exC r.ex := by unfold XR.ex exE; rw [exC_eq]; rfl
end
theorem tmExpr_P (n : Nat) : ∀ t : Tm, SizeOf.sizeOf t ≤ n → TmB t → Pu 30 [.agg (tmC t)] (xT t).v := by
  induction n with
  | zero => rintro ⟨⟩ h; simp at h
  | succ n ih =>
    rintro ⟨s, k, xs⟩ hn hB
    simp only [Tm.mk.sizeOf_spec] at hn
    cases hB with | mk b1 b2 =>
    refine ⟨?_, by simp only [idsL, idsV, tmC_ids, Bool.and_self]⟩
    refine T.of0 mix c_term_expr rfl ?_
    unfold v_term_expr
    simp only [tmC_eq, go_sem, ↓reduceIte, callG_eq]
    rw [xT_eq]
    refine ⟨fun hs => ?_, fun hs => ?_⟩
    · have hs' : s = [] := by simpa using hs
      rw [if_pos hs']; rfl
    · rw [if_neg (by simpa using hs)]
      refine WP.range (n := xs.length) (fun i E F => (∃ L, F = [.cells 0 [.str s, .int .i64 k, .sl false 3 (xs.map tmC)], .cells 0 [.int .i64 0, .str [], .int .i64 0, .sl true 1 [], .sl true 9 [], .sl true 7 [], .nilh 4, .int .i64 0, .int .i64 0], .cells 0 ((((xs.take i).map xT).foldl appX ⟨2, s, 0, []⟩).cc true)] ++ L) ∧
        ∃ ex, E = ⟨(2, .ptr 1 0 0) :: (3, .ptr 2 0 0) :: (17, .sl false 3 (xs.map tmC)) :: (18, .int .i64 xs.length) :: (19, .int .i64 i) :: ex, .u⟩) ⟨⟨[], rfl⟩, [], rfl⟩ ?_
      rintro i E F hi ⟨⟨L, rfl⟩, ex, rfl⟩
      have hw := inc64 (i := i) (by omega)
      simp only [go_sem, ↓reduceIte, ↓ex_map, ↓run_addW, hw, Int.toNat_natCast, lt_len, callG_eq]
      refine ⟨fun hlt => ?_, fun hge => ?_⟩
      · obtain ⟨x, hg, hxm⟩ := getL hlt
        have hsz := List.sizeOf_lt_of_mem hxm
        have hT := ih x (by omega) (b2 x hxm)
        rw [fold_take hg]
        generalize ((xs.take i).map xT).foldl appX ⟨2, s, 0, []⟩ = cur
        simp only [go_sem, ↓reduceIte, ↓ex_map, ↓run_addW, hw, hg, List.append_assoc, List.cons_append, List.nil_append, gc_app0, gc_appN, set_app0, set_appN, callG_eq]
        refine ⟨_, hT.al (by simp only [go_sem]), by simp only [idsL, idsV, tmC_ids, Bool.and_self], ?_⟩
        simp only [go_sem, ↓reduceIte, ↓ex_map, ↓run_addW, hw, hg, XR.v_eq, elems_nil, List.append_assoc, List.cons_append, List.nil_append, gc_app0, gc_appN, set_app0, set_appN, callG_eq]
        exact ⟨hlt, ⟨_, rfl⟩, [], rfl⟩
      · rw [List.take_of_length_le (by omega)]
        generalize (xs.map xT).foldl appX ⟨2, s, 0, []⟩ = cur
        rfl
end Go.Proofs.YtoaohapbbnpbeaaGreat.Vm

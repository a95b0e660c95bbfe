/-
The value machine, part 14: structs that are held against each other.
-/
import Derived.Test.YtglemgdlkddjhaaVm13
namespace Go.Proofs.Ytglemgdlkddjhaa.Vm
open Go

def sizeIs (P : Program) (t : TypeId) (n : Nat) : Bool := match P.info? t with
  | some i => i.size == n
  | none => false
theorem sizeIs_eq {P : Program} {t : TypeId} {n : Nat} (h : sizeIs P t n = true) : (P.info? t).map (·.size) = some n := by
  unfold sizeIs at h
  split at h
  · rename_i i e; rw [e]; simpa using h
  · cases h

mutual
/-- The kinds of a type's cells, where they are numbers, texts and bools alone. -/
def flatT (P : Program) : Nat → TypeId → Option (List K3)
  | 0, _ => none
  | d + 1, t => match P.underlying t with
    | some .bool => some [.b]
    | some (.int _) => some [.i]
    | some .string => some [.s]
    | some (.struct fs) => if P.stoodInHeld t then none else flatFs P d fs.toList 0
    | _ => none
def flatFs (P : Program) : Nat → List Field → Nat → Option (List K3)
  | 0, _, _ => none
  | _ + 1, [], _ => some []
  | d + 1, f :: fs, off => if f.name ≠ "_" ∧ f.offset = off then
      match flatT P d f.type with
      | some n => if sizeIs P f.type n.length then (flatFs P d fs (off + n.length)).map (n ++ ·) else none
      | none => none
    else none
end

section
variable {P : Program} {w : World} {G : Gh} {own : Nat → Option Place} {H : Heap}

theorem eqCells_length : ∀ {ks : List K3} {xs ys : List V} {b : Bool}, eqCells ks xs ys = some b → xs.length = ks.length ∧ ys.length = ks.length
  | [], [], [], _, _ => ⟨rfl, rfl⟩
  | k :: ks, x :: xs, y :: ys, b, h => by
    unfold eqCells at h
    cases h1 : eqScal k x y with
    | none => rw [h1] at h; cases h
    | some c =>
      rw [h1] at h
      cases h2 : eqCells ks xs ys with
      | none => rw [h2] at h; cases h
      | some c2 =>
        have := eqCells_length h2
        simp [this.1, this.2]
  | [], _ :: _, _, _, h => by simp [eqCells] at h
  | [], [], _ :: _, _, h => by simp [eqCells] at h
  | _ :: _, [], _, _, h => by simp [eqCells] at h
  | _ :: _, _ :: _, [], _, h => by simp [eqCells] at h

theorem eqCells_append : ∀ {k1 k2 : List K3} {xs ys : List V} {b : Bool}, eqCells (k1 ++ k2) xs ys = some b →
    ∃ b1 b2, eqCells k1 (xs.take k1.length) (ys.take k1.length) = some b1 ∧ eqCells k2 (xs.drop k1.length) (ys.drop k1.length) = some b2 ∧ b = (b1 && b2)
  | [], k2, xs, ys, b, h => ⟨true, b, by simp [eqCells], by simpa using h, by simp⟩
  | k :: k1, k2, [], ys, b, h => by simp [eqCells] at h
  | k :: k1, k2, _ :: _, [], b, h => by simp [eqCells] at h
  | k :: k1, k2, x :: xs, y :: ys, b, h => by
    simp only [List.cons_append, eqCells] at h
    cases h1 : eqScal k x y with
    | none => rw [h1] at h; cases h
    | some c =>
      rw [h1] at h
      simp only [Option.bind_some] at h
      cases h2 : eqCells (k1 ++ k2) xs ys with
      | none => rw [h2] at h; cases h
      | some c2 =>
        obtain ⟨b1, b2, e1, e2, e3⟩ := eqCells_append h2
        rw [h2] at h
        simp only [Option.map_some, Option.some.injEq] at h
        refine ⟨c && b1, b2, ?_, by simpa using e2, ?_⟩
        · simp [eqCells, h1, e1]
        · rw [← h, e3, Bool.and_assoc]

inductive F2 (R : Field → Bool → Prop) : List Field → List Bool → Prop
  | nil : F2 R [] []
  | cons {f b fs bs} (h : R f b) (t : F2 R fs bs) : F2 R (f :: fs) (b :: bs)
theorem F2.imp {R S : Field → Bool → Prop} (h : ∀ f b, R f b → S f b) {fs : List Field} {bs : List Bool} (k : F2 R fs bs) : F2 S fs bs := by
  induction k with
  | nil => exact .nil
  | cons a _ ih => exact .cons (h _ _ a) ih

theorem forIn_eq (body : Field → (Option Bool × Unit) → Sem (ForInStep (Option Bool × Unit))) {fs : List Field} {bs : List Bool}
    (h : F2 (fun f b => (body f (none, ())).run P w = .ok (if b then .yield (none, ()) else .done (some false, ())) w) fs bs) :
    (forIn fs ((none, ()) : Option Bool × Unit) body).run P w = .ok (if bs.all id then (none, ()) else (some false, ())) w := by
  induction h with
  | nil => rfl
  | @cons f b fs bs h1 _ ih =>
    rw [List.forIn_cons, Sem.run_bind, h1, Result.andThen_ok]
    cases b with
    | true => simp only [if_true, List.all_cons, id, Bool.true_and]; exact ih
    | false => simp

theorem run_part {t : TypeId} {d : TypeDesc} {n : Nat} (hu : P.underlying t = some d) (hs : (P.info? t).map (·.size) = some n) (hg : aggOf P t = false → n = 1) {cs : List Value} {off : Nat} (hl : off + n ≤ cs.length) :
    (part t cs.toArray off).run P w = .ok (mkC (aggOf P t) ((cs.drop off).take n)) w := by
  simp only [part, Sem.run_bind, run_isAgg hu, Result.andThen_ok]
  cases hagg : aggOf P t with
  | true => simp [run_sizeOf hs, mkC]
  | false =>
    have := hg hagg
    subst this
    have hlt : off < cs.length := by omega
    have : (cs.drop off).take 1 = [cs[off]] := by
      rw [List.drop_eq_getElem_cons hlt]; rfl
    simp [mkC, hlt, this]

theorem flat_agg {d : Nat} {t : TypeId} {ks : List K3} (h : flatT P d t = some ks) : (∃ de, P.underlying t = some de) ∧ (aggOf P t = false → ks.length = 1) := by
  match d with
  | 0 => cases h
  | d + 1 =>
    simp only [flatT] at h
    cases hu : P.underlying t with
    | none => rw [hu] at h; cases h
    | some de =>
      refine ⟨⟨de, rfl⟩, fun ha => ?_⟩
      rw [hu] at h
      unfold aggOf at ha
      rw [hu] at ha
      cases de <;> simp at h ha <;> subst h <;> rfl

theorem equal_scal {t : TypeId} {D : Nat} {k : K3} {x y : V} {b : Bool} {cx cy : Value} {bx bY : List Nat} (hx : RepL w G [x] [cx] bx) (hy : RepL w G [y] [cy] bY) (he : eqScal k x y = some b)
    (hu : (k = .b ∧ P.underlying t = some .bool) ∨ (k = .i ∧ ∃ j, P.underlying t = some (.int j)) ∨ (k = .s ∧ P.underlying t = some .string)) : (Op.equalIn (D + 1) t cx cy).run P w = .ok b w := by
  unfold eqScal at he
  split at he
  · rcases hu with ⟨h, _⟩ | ⟨_, j, hu⟩ | ⟨h, _⟩ <;> first | (cases h; done) | skip
    split at he
    · rename_i hjk
      cases he
      obtain ⟨_, hcs, _⟩ := hx.int_inv
      cases hcs
      obtain ⟨_, hcs, _⟩ := hy.int_inv
      cases hcs
      simp [Op.equalIn, run_underlying hu, hjk]
    · cases he
  · rcases hu with ⟨h, _⟩ | ⟨h, _⟩ | ⟨_, hu⟩ <;> first | (cases h; done) | skip
    cases he
    obtain ⟨b1, _, h1, hcs, _⟩ := hx.str_inv
    cases hcs
    obtain ⟨b2, _, h2, hcs, _⟩ := hy.str_inv
    cases hcs
    subst h1 h2
    have : (b1 == b2) = (b1.data.toList == b2.data.toList) := by
      have : (b1 == b2) = (b1.data == b2.data) := rfl
      rw [this, Bool.eq_iff_iff]
      simp
    simp only [Op.equalIn, Sem.run_bind, run_underlying hu, Result.andThen_ok, Sem.run_pure, this]
  · rcases hu with ⟨_, hu⟩ | ⟨h, _⟩ | ⟨h, _⟩ <;> first | (cases h; done) | skip
    cases he
    obtain ⟨_, hcs, _⟩ := hx.bool_inv
    cases hcs
    obtain ⟨_, hcs, _⟩ := hy.bool_inv
    cases hcs
    simp [Op.equalIn, run_underlying hu]
  · cases he

theorem RepL.takeDrop {vs : List V} {cs : List Value} {bl : List Nat} (h : RepL w G vs cs bl) (n : Nat) (hn : n ≤ vs.length) : (∃ b1, RepL w G (vs.take n) (cs.take n) b1) ∧ ∃ b2, RepL w G (vs.drop n) (cs.drop n) b2 := by
  have e := h
  rw [← List.take_append_drop n vs] at e
  obtain ⟨b1, b2, _, h1, h2⟩ := RepL.split _ e
  rw [List.length_take, Nat.min_eq_left hn] at h1 h2
  exact ⟨⟨b1, h1⟩, ⟨b2, h2⟩⟩

theorem equal_flat : ∀ (d : Nat),
    (∀ (t : TypeId) (ks : List K3) (D : Nat) (xs ys : List V) (cx cy : List Value) (b : Bool) (bx bY : List Nat), flatT P d t = some ks → d ≤ D → RepL w G xs cx bx → RepL w G ys cy bY → eqCells ks xs ys = some b →
      (Op.equalIn D t (mkC (aggOf P t) cx) (mkC (aggOf P t) cy)).run P w = .ok b w) ∧
    (∀ (fs : List Field) (off : Nat) (ks : List K3), flatFs P d fs off = some ks → ∀ (D : Nat) (xs ys : List V) (cx cy : List Value) (b : Bool) (bx bY : List Nat), d ≤ D + 1 → RepL w G xs cx bx → RepL w G ys cy bY →
      eqCells ks (xs.drop off) (ys.drop off) = some b → off ≤ xs.length → off ≤ ys.length →
      ∃ bs : List Bool, bs.all id = b ∧ F2 (fun f c => f.name ≠ "_" ∧ ∃ x, (part f.type cx.toArray f.offset).run P w = .ok x w ∧ ∃ y, (part f.type cy.toArray f.offset).run P w = .ok y w ∧ (Op.equalIn D f.type x y).run P w = .ok c w) fs bs) := by
  intro d
  induction d with
  | zero => exact ⟨(fun t ks D xs ys cx cy b bx bY h => by cases h), (fun fs off ks h => by cases h)⟩
  | succ d ih =>
    obtain ⟨ihA, ihB⟩ := ih
    constructor
    · intro t ks D xs ys cx cy b bx bY h hD hx hy he
      obtain ⟨hl1, hl2⟩ := eqCells_length he
      obtain ⟨D, rfl⟩ : ∃ m, D = m + 1 := ⟨D - 1, by omega⟩
      have one : ∀ k, ks = [k] → aggOf P t = false → ((k = .b ∧ P.underlying t = some .bool) ∨ (k = .i ∧ ∃ j, P.underlying t = some (.int j)) ∨ (k = .s ∧ P.underlying t = some .string)) →
          (Op.equalIn (D + 1) t (mkC (aggOf P t) cx) (mkC (aggOf P t) cy)).run P w = .ok b w := by
        intro k hk ha hu
        subst hk
        match xs, hl1 with
        | [x], _ =>
          match ys, hl2 with
          | [y], _ =>
            obtain ⟨c1, rfl⟩ := hx.single
            obtain ⟨c2, rfl⟩ := hy.single
            simp only [eqCells] at he
            cases h1 : eqScal k x y with
            | none => rw [h1] at he; cases he
            | some c =>
              rw [h1] at he
              simp at he
              subst he
              rw [ha]
              exact equal_scal hx hy h1 hu
      simp only [flatT] at h
      cases hu : P.underlying t with
      | none => rw [hu] at h; cases h
      | some de =>
        rw [hu] at h
        have hagg : aggOf P t = (match de with | .struct _ | .array _ _ => true | _ => false) := by unfold aggOf; simp only [hu]; cases de <;> rfl
        cases de <;> simp only [reduceCtorEq] at h
        case bool => cases h; exact one .b rfl hagg (.inl ⟨rfl, hu⟩)
        case int j => cases h; exact one .i rfl hagg (.inr (.inl ⟨rfl, j, hu⟩))
        case string => cases h; exact one .s rfl hagg (.inr (.inr ⟨rfl, hu⟩))
        case struct fs =>
          split at h
          · cases h
          · rename_i hst
            have hst : P.stoodInHeld t = false := by simpa using hst
            obtain ⟨bs, hall, hf⟩ := ihB fs.toList 0 ks h D xs ys cx cy b bx bY (by omega) hx hy (by simpa using he) (Nat.zero_le _) (Nat.zero_le _)
            rw [hagg]
            simp only [mkC]
            simp only [Op.equalIn, Sem.run_bind, run_underlying hu, Result.andThen_ok, run_program, hst, Bool.false_eq_true, if_false]
            rw [← Array.forIn_toList]
            rw [forIn_eq (bs := bs)]
            · simp only [Result.andThen_ok]
              rw [hall]
              cases b <;> rfl
            · refine hf.imp ?_
              rintro f c ⟨h1, x, h2, y, h3, h4⟩
              simp only [if_pos h1, Sem.run_bind, h2, h3, h4, Result.andThen_ok]
              cases c <;> rfl
    · intro fs off ks h D xs ys cx cy b bx bY hD hx hy he ho1 ho2
      match fs with
      | [] =>
        cases h
        have : b = true := by
          have := eqCells_length he
          match hxd : xs.drop off, hyd : ys.drop off, this with
          | [], [], _ => rw [hxd, hyd] at he; simp [eqCells] at he; exact he
        exact ⟨[], by simp [this], .nil⟩
      | f :: fs =>
        simp only [flatFs] at h
        split at h
        · rename_i hfn
          obtain ⟨hname, hoff⟩ := hfn
          cases hft : flatT P d f.type with
          | none => rw [hft] at h; cases h
          | some n =>
            rw [hft] at h
            simp only at h
            split at h
            · rename_i hsz
              have hsz := sizeIs_eq hsz
              cases hfs : flatFs P d fs (off + n.length) with
              | none => rw [hfs] at h; cases h
              | some ks2 =>
                rw [hfs] at h
                simp only [Option.map_some, Option.some.injEq] at h
                subst h
                obtain ⟨b1, b2, e1, e2, rfl⟩ := eqCells_append he
                obtain ⟨l1, l2⟩ := eqCells_length he
                simp only [List.length_append, List.length_drop] at l1 l2
                obtain ⟨⟨de, hu⟩, hg⟩ := flat_agg hft
                rw [List.drop_drop, List.drop_drop] at e2
                obtain ⟨bs, hall, hf⟩ := ihB fs (off + n.length) ks2 hfs D xs ys cx cy b2 bx bY (by omega) hx hy e2 (by omega) (by omega)
                obtain ⟨_, ⟨bx1, hx1⟩⟩ := hx.takeDrop off (by omega)
                obtain ⟨⟨bx2, hx2⟩, _⟩ := hx1.takeDrop n.length (by simp; omega)
                obtain ⟨_, ⟨by1, hy1⟩⟩ := hy.takeDrop off (by omega)
                obtain ⟨⟨by2, hy2⟩, _⟩ := hy1.takeDrop n.length (by simp; omega)
                have hA := ihA f.type n D _ _ _ _ b1 _ _ hft (by omega) hx2 hy2 e1
                refine ⟨b1 :: bs, by simp [hall], .cons ⟨hname, ?_⟩ hf⟩
                have hlx : cx.length = xs.length := hx.length.symm
                have hly : cy.length = ys.length := hy.length.symm
                exact ⟨_, run_part hu hsz hg (by omega), _, run_part hu hsz hg (by omega), by rw [hoff]; exact hA⟩
            · cases h
        · cases h

theorem RepL.agg_inv {ws : List V} {c : Value} {bl : List Nat} (h : RepL w G [.agg ws] [c] bl) : ∃ acs b, c = .agg acs.toArray ∧ RepL w G ws acs b := by
  cases h with
  | imm _ _ h _ => cases h
  | agg hx _ => exact ⟨_, _, rfl, hx⟩

theorem equal_maxDepth {t : TypeId} {x y : Value} {b : Bool} (h : ∀ D, 20 ≤ D → (Op.equalIn D t x y).run P w = .ok b w) : (Op.equal t x y).run P w = .ok b w := h 10000 (by omega)

theorem eqc_post (hok : Ok w G own H) {t : TypeId} {ne agg : Bool} {ks : List K3} {x y : V} {cx cy : Value} {b : Bool} {bl : List Nat} (hf : flatT P 20 t = some ks) (ha : aggOf P t = agg) (hg : P.eqGuardType P.depth t = false) (hnb : agg = false → ks = [.b])
    (hr : RepL w G [x, y] [cx, cy] bl) (he : eqV ks agg x y = some b) (ox oy : Operand) :
    DoneV ((do eqGuard (if ne then .neq else .eql) t ox oy cx cy; binOp (if ne then .neq else .eql) t cx cy : Sem Value).run P w) (Post w G own (.bool (b != ne)) H) := by
  obtain ⟨c1, cs', b1, b2, hcs, _, h1, h2⟩ := hr.cons_inv
  cases hcs
  cases agg with
  | false =>
    obtain rfl := hnb rfl
    simp only [eqV, eqCells] at he
    cases hs : eqScal .b x y with
    | none => rw [hs] at he; cases he
    | some c =>
      rw [hs] at he
      simp at he
      subst he
      have hu : P.underlying t = some .bool := by
        simp only [flatT] at hf
        cases hu : P.underlying t with
        | none => rw [hu] at hf; cases hf
        | some de =>
          rw [hu] at hf
          unfold aggOf at ha
          rw [hu] at ha
          cases de <;> simp at hf ha ⊢
      cases x <;> cases y <;> simp [eqScal] at hs
      rename_i p q
      obtain ⟨_, hcs, _⟩ := h1.bool_inv
      cases hcs
      obtain ⟨_, hcs, _⟩ := h2.bool_inv
      cases hcs
      subst hs
      exact eqBool_post hok hu p q ox oy
  | true =>
    cases x <;> simp only [eqV, reduceCtorEq] at he
    rename_i xs
    cases y <;> simp only [reduceCtorEq] at he
    rename_i ys
    obtain ⟨acs, _, rfl, hx⟩ := h1.agg_inv
    obtain ⟨acs', _, rfl, hy⟩ := h2.agg_inv
    have hE := equal_maxDepth (P := P) (w := w) (t := t) (x := .agg acs.toArray) (y := .agg acs'.toArray) (b := b) (by
      intro D hD
      have := (equal_flat (P := P) (w := w) (G := G) 20).1 t ks D xs ys acs acs' b _ _ hf hD hx hy he
      rw [ha] at this
      exact this)
    have hgr : (eqGuard (if ne then .neq else .eql) t ox oy (.agg acs.toArray) (.agg acs'.toArray)).run P w = .ok () w := by
      cases ne <;> simp [eqGuard, hg]
    rw [Sem.run_bind, hgr, Result.andThen_ok]
    cases ne <;> simp [binOp, hE] <;> exact .ok (post_plain hok (.bool _ .nil))
end
end Go.Proofs.Ytglemgdlkddjhaa.Vm

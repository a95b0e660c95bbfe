/-
The groups, part 17: the program's groups are the reference's.
-/
import Derived.Test.YtglemgdlkddjhaaGrp16
namespace Go.Proofs.Ytglemgdlkddjhaa.Vm
open Go

theorem nb_edge {uses : List (List Int)} (hok : wrongE uses = 0) {a b : Nat} : b ∈ nbU uses a ↔ Edge uses a b := by
  unfold nbU Edge
  rw [List.getD_eq_getElem?_getD]
  cases h : uses[a]? with
  | none => simp
  | some r =>
    simp only [Option.getD_some, Option.some.injEq, exists_eq_left', List.mem_map]
    constructor
    · rintro ⟨x, h1, h2⟩
      obtain ⟨k, h3, _⟩ := row_ok hok h h1
      subst h3
      have : k = b := by simpa using h2
      rw [← this]; exact h1
    · intro hb; exact ⟨(b : Int), hb, by simp⟩
theorem rch_path {uses : List (List Int)} (hok : wrongE uses = 0) {a b : Nat} : Rch (nbU uses) a b ↔ a = b ∨ Path uses a b := by
  constructor
  · intro h
    induction h with
    | refl => exact .inl rfl
    | step _ e ih =>
      have e := (nb_edge hok).1 e
      rcases ih with rfl | ih
      · exact .inr (.one e)
      · exact .inr (.more ih e)
  · rintro (rfl | h)
    · exact .refl _
    · induction h with
      | one e => exact .one ((nb_edge hok).2 e)
      | more _ e ih => exact .step ih ((nb_edge hok).2 e)

def cntB (n : Nat) (d : Nat → Bool) : Nat := ((List.range n).filter fun x => !d x).length
theorem cntB_upd {n k : Nat} {d : Nat → Bool} (hk : k < n) (h0 : d k = false) : cntB n (updN d k true) + 1 = cntB n d := by
  unfold cntB
  induction n with
  | zero => omega
  | succ n ih =>
    rw [List.range_succ, List.filter_append, List.filter_append, List.length_append, List.length_append]
    by_cases hkn : k = n
    · subst hkn
      have e : (List.range k).filter (fun x => !(updN d k true x)) = (List.range k).filter (fun x => !(d x)) := by
        apply List.filter_congr
        intro x hx
        have : x ≠ k := by have := List.mem_range.1 hx; omega
        rw [updN_other _ _ this]
      rw [e]
      simp [updN_same, h0]
    · have := ih (by omega)
      have e : updN d k true n = d n := updN_other _ _ (by omega)
      simp only [List.filter_cons, List.filter_nil, e]
      omega
theorem cntB_zero {n : Nat} {d : Nat → Bool} (h : cntB n d = 0) {k : Nat} (hk : k < n) : d k = true := by
  unfold cntB at h
  have := List.eq_nil_of_length_eq_zero h
  rw [List.filter_eq_nil_iff] at this
  have := this k (by simpa using hk)
  simpa using this
theorem cntB_pos {n : Nat} {d : Nat → Bool} (h : 0 < cntB n d) : ∃ k, k < n ∧ d k = false := by
  unfold cntB at h
  obtain ⟨k, hk⟩ := List.exists_mem_of_length_pos h
  obtain ⟨h1, h2⟩ := List.mem_filter.1 hk
  exact ⟨k, by simpa using h1, by simpa using h2⟩

/-- What the groups are. -/
structure GrpOk (uses : List (List Int)) (grp : Nat → Nat) (many : Nat) : Prop where
  lt : ∀ x, x < uses.length → grp x < many
  mem : ∀ g, g < many → ∃ x, x < uses.length ∧ grp x = g
  same : ∀ x y, x < uses.length → y < uses.length → (grp x = grp y ↔ Rch (nbU uses) x y ∧ Rch (nbU uses) y x)

section
variable {uses : List (List Int)} {grp : Nat → Nat} {many : Nat}
theorem rch_lt (hok : wrongE uses = 0) {a b : Nat} (h : Rch (nbU uses) a b) (ha : a < uses.length) : b < uses.length := by
  cases h with
  | refl => exact ha
  | step _ e => exact (edge_lt hok ((nb_edge hok).1 e)).2
theorem sameB_grp (hok : wrongE uses = 0) (hg : GrpOk uses grp many) {k i : Nat} (hk : k < uses.length) (hi : i < uses.length) : sameB uses k i = (grp i == grp k) := by
  rw [Bool.eq_iff_iff]
  simp only [sameB, Bool.or_eq_true, Bool.and_eq_true, beq_iff_eq, reachB_iff, hg.same i k hi hk, rch_path hok]
  constructor
  · rintro (rfl | ⟨h1, h2⟩)
    · exact ⟨.inl rfl, .inl rfl⟩
    · exact ⟨.inr h1, .inr h2⟩
  · rintro ⟨h1, h2⟩
    rcases h1 with rfl | h1
    · exact .inl rfl
    · rcases h2 with rfl | h2
      · exact .inl rfl
      · exact .inr ⟨h1, h2⟩
theorem groupL_mem (hok : wrongE uses = 0) (hg : GrpOk uses grp many) {k : Nat} (hk : k < uses.length) : groupL uses k = natI (memL uses.length grp (grp k)) := by
  unfold groupL outL natI memL
  congr 1
  apply List.filter_congr
  intro x hx
  exact sameB_grp hok hg hk (by simpa using hx)
theorem headN_mem (hok : wrongE uses = 0) (hg : GrpOk uses grp many) {k : Nat} (hk : k < uses.length) : (memL uses.length grp (grp k)).head? = some (headN uses k) := by
  have hex : ((List.range uses.length).find? (sameB uses k)).isSome = true := by
    rw [List.find?_isSome]; exact ⟨k, by simpa using hk, sameB_self _ _⟩
  obtain ⟨a, ha⟩ := Option.isSome_iff_exists.1 hex
  unfold headN memL
  rw [ha, List.head?_filter]
  have : (List.range uses.length).find? (fun x => grp x == grp k) = (List.range uses.length).find? (sameB uses k) := by
    rw [← List.head?_filter, ← List.head?_filter]
    congr 1
    apply List.filter_congr
    intro x hx
    exact (sameB_grp hok hg hk (by simpa using hx)).symm
  rw [this, ha]; rfl
theorem headN_grp (hok : wrongE uses = 0) (hg : GrpOk uses grp many) {k : Nat} (hk : k < uses.length) : headN uses k < uses.length ∧ grp (headN uses k) = grp k := by
  have h := headN_mem hok hg hk
  have := List.mem_of_mem_head? h
  exact memL_lt this
theorem headN_le {k : Nat} (hk : k < uses.length) : headN uses k ≤ k := by
  unfold headN
  cases h : (List.range uses.length).find? (sameB uses k) with
  | none => exact Nat.le_refl _
  | some a =>
    rw [List.find?_eq_some_iff_getElem] at h
    obtain ⟨_, i, h1, h2, h3⟩ := h
    simp at h2
    rw [Option.getD_some, ← h2]
    rcases Nat.lt_or_ge k i with hlt | hge
    · have := h3 k hlt
      simp [sameB_self] at this
    · exact hge
theorem headN_same (hok : wrongE uses = 0) (hg : GrpOk uses grp many) {j k : Nat} (hj : j < uses.length) (hk : k < uses.length) (h : grp j = grp k) : headN uses j = headN uses k := by
  have h1 := headN_mem hok hg hj
  rw [h, headN_mem hok hg hk] at h1
  exact (Option.some.inj h1).symm

/-- All that a thing leads to is done, or in its group. -/
def Rdy (uses : List (List Int)) (grp : Nat → Nat) (dn : Nat → Bool) (k : Nat) : Prop := ∀ i, Rch (nbU uses) k i → dn (grp i) = true ∨ grp i = grp k
def Clo (uses : List (List Int)) (grp : Nat → Nat) (dn : Nat → Bool) : Prop := ∀ x, x < uses.length → dn (grp x) = true → ∀ t ∈ nbU uses x, dn (grp t) = true
def Like (uses : List (List Int)) (grp : Nat → Nat) (dn : Nat → Bool) (done : List Bool) : Prop := done.length = uses.length ∧ ∀ i, i < uses.length → done[i]? = some (dn (grp i))

theorem Rdy.same (hok : wrongE uses = 0) (hg : GrpOk uses grp many) {dn : Nat → Bool} {j k : Nat} (hj : j < uses.length) (hk : k < uses.length) (h : grp j = grp k) (hr : Rdy uses grp dn j) : Rdy uses grp dn k := by
  intro i hi
  rw [← h]
  exact hr i (.trans ((hg.same j k hj hk).1 h).1 hi)
theorem readyB_rdy (hok : wrongE uses = 0) (hg : GrpOk uses grp many) {dn : Nat → Bool} {done : List Bool} (hl : Like uses grp dn done) {a : Nat} (ha : a < uses.length) : readyB uses a done = true ↔ Rdy uses grp dn a := by
  unfold readyB
  rw [List.all_eq_true]
  have hd : ∀ i, i < uses.length → done.getD i false = dn (grp i) := fun i hi => by rw [List.getD_eq_getElem?_getD, hl.2 i hi]; rfl
  constructor
  · intro h i hi
    have hin := rch_lt hok hi ha
    have := h i (by simpa using hin)
    by_cases hdi : dn (grp i) = true
    · exact .inl hdi
    · right
      rcases (rch_path hok).1 hi with rfl | hp
      · rfl
      · have hw : waitB uses a done i = false := by simpa using this
        unfold waitB at hw
        rw [hd i hin, reachB_iff.2 hp] at hw
        simp [hdi] at hw
        exact (hg.same i a hin ha).2 ⟨(rch_path hok).2 (.inr (reachB_iff.1 hw)), hi⟩
  · intro h i hi
    have hin : i < uses.length := by simpa using hi
    rw [Bool.not_eq_true']
    cases hw : waitB uses a done i with
    | false => rfl
    | true =>
      exfalso
      unfold waitB at hw
      rw [hd i hin] at hw
      simp only [Bool.and_eq_true, Bool.not_eq_true', reachB_iff] at hw
      obtain ⟨⟨h1, h2⟩, h3⟩ := hw
      rcases h i ((rch_path hok).2 (.inr h1)) with h4 | h4
      · rw [h4] at h2; cases h2
      · rcases (rch_path hok).1 ((hg.same i a hin ha).1 h4).1 with rfl | h5
        · rw [reachB_iff.2 h1] at h3; cases h3
        · rw [reachB_iff.2 h5] at h3; cases h3
theorem needsB_rdy (hok : wrongE uses = 0) (hg : GrpOk uses grp many) {dn : Nat → Bool} (hc : Clo uses grp dn) {k : Nat} (hk : k < uses.length) : needsB uses grp (memL uses.length grp (grp k)) dn = true ↔ Rdy uses grp dn k := by
  unfold needsB
  simp only [List.all_eq_true, Bool.or_eq_true, beq_iff_eq]
  constructor
  · intro h i hi
    refine hi.inv (Q := fun x => x < uses.length ∧ (dn (grp x) = true ∨ grp x = grp k)) ?_ ⟨hk, .inr rfl⟩ |>.2
    rintro x ⟨hx, h1⟩ w hw
    have hwn := (edge_lt hok ((nb_edge hok).1 hw)).2
    refine ⟨hwn, ?_⟩
    rcases h1 with h1 | h1
    · exact .inl (hc x hx h1 w hw)
    · rcases h x (List.mem_filter.2 ⟨by simpa using hx, by simpa using h1⟩) w hw with h2 | h2
      · exact .inl h2
      · exact .inr (h2.trans h1)
  · intro h x hx t ht
    obtain ⟨hxn, hxg⟩ := memL_lt hx
    rw [hxg]
    exact h t (.step ((hg.same k x hk hxn).1 hxg.symm).1 ht)

theorem p_eq (hok : wrongE uses = 0) (hg : GrpOk uses grp many) {dn : Nat → Bool} {done : List Bool} (hc : Clo uses grp dn) (hl : Like uses grp dn done) : pickG uses done = (List.range uses.length).find? (readyP uses grp dn) := by
  have hp1 : ∀ k, k < uses.length → ((!(done.getD k false) && readyB uses (headN uses k) done) = true ↔ dn (grp k) = false ∧ Rdy uses grp dn k) := by
    intro k hk
    have hh := headN_grp hok hg hk
    rw [Bool.and_eq_true, readyB_rdy hok hg hl hh.1, List.getD_eq_getElem?_getD, hl.2 k hk, Option.getD_some, Bool.not_eq_true']
    exact ⟨fun h => ⟨h.1, h.2.same hok hg hh.1 hk hh.2⟩, fun h => ⟨h.1, h.2.same hok hg hk hh.1 hh.2.symm⟩⟩
  have hp2 : ∀ k, k < uses.length → (readyP uses grp dn k = true ↔ dn (grp k) = false ∧ headN uses k = k ∧ Rdy uses grp dn k) := by
    intro k hk
    unfold readyP
    rw [Bool.and_eq_true, Bool.and_eq_true, needsB_rdy hok hg hc hk, headN_mem hok hg hk, Bool.not_eq_true']
    simp
  unfold pickG
  cases h : (List.range uses.length).find? (readyP uses grp dn) with
  | none =>
    rw [List.find?_eq_none] at h ⊢
    intro x hx hpx
    have hxn : x < uses.length := by simpa using hx
    have h1 := (hp1 x hxn).1 hpx
    have hh := headN_grp hok hg hxn
    refine h (headN uses x) (by simpa using hh.1) ((hp2 _ hh.1).2 ⟨by rw [hh.2]; exact h1.1, headN_same hok hg hh.1 hxn hh.2, h1.2.same hok hg hxn hh.1 hh.2.symm⟩)
  | some k =>
    rw [List.find?_eq_some_iff_getElem] at h
    obtain ⟨h1, i, h2, h3, h4⟩ := h
    simp at h2 h3
    subst h3
    have hk := (hp2 i h2).1 h1
    refine find_first h2 ((hp1 i h2).2 ⟨hk.1, hk.2.2⟩) fun j hj => ?_
    have hjn : j < uses.length := by omega
    cases hb : (!(done.getD j false) && readyB uses (headN uses j) done) with
    | false => rfl
    | true =>
      exfalso
      have h5 := (hp1 j hjn).1 hb
      have hh := headN_grp hok hg hjn
      have hle := headN_le hjn
      have := h4 (headN uses j) (by omega)
      simp only [List.getElem_range, Bool.not_eq_true'] at this
      rw [(hp2 _ hh.1).2 ⟨by rw [hh.2]; exact h5.1, headN_same hok hg hh.1 hjn hh.2, h5.2.same hok hg hjn hh.1 hh.2.symm⟩] at this
      cases this

open Classical in
/-- What a thing leads to. -/
noncomputable def rset (uses : List (List Int)) (x : Nat) : Nat := ((List.range uses.length).filter fun y => decide (Rch (nbU uses) x y)).length
theorem filter_le {p q : Nat → Bool} : ∀ {l : List Nat}, (∀ x ∈ l, p x = true → q x = true) → (l.filter p).length ≤ (l.filter q).length
  | [], _ => Nat.le_refl _
  | x :: l, h => by
    have ih := filter_le (l := l) fun y hy => h y (List.mem_cons_of_mem _ hy)
    have h0 := h x (List.mem_cons_self ..)
    simp only [List.filter_cons]
    cases hp : p x <;> cases hq : q x <;> simp [hp, hq] at h0 ⊢ <;> omega
theorem filter_lt {p q : Nat → Bool} : ∀ {l : List Nat}, (∀ x ∈ l, p x = true → q x = true) → (∃ x ∈ l, p x = false ∧ q x = true) → (l.filter p).length < (l.filter q).length
  | [], _, ⟨x, hx, _⟩ => by cases hx
  | x :: l, h, ⟨z, hz, h1, h2⟩ => by
    have hle := filter_le (l := l) fun y hy => h y (List.mem_cons_of_mem _ hy)
    have h0 := h x (List.mem_cons_self ..)
    simp only [List.filter_cons]
    rcases List.mem_cons.1 hz with rfl | hz
    · simp [h1, h2]; omega
    · have ih := filter_lt (l := l) (fun y hy => h y (List.mem_cons_of_mem _ hy)) ⟨z, hz, h1, h2⟩
      cases hp : p x <;> cases hq : q x <;> simp [hp, hq] at h0 ⊢ <;> omega
theorem rset_lt (hok : wrongE uses = 0) {x y : Nat} (hx : x < uses.length) (h : Rch (nbU uses) x y) (hn : ¬ Rch (nbU uses) y x) : rset uses y < rset uses x := by
  unfold rset
  refine filter_lt (fun z _ hz => ?_) ⟨x, by simpa using hx, by simpa using hn, by simpa using Rch.refl x⟩
  simp only [decide_eq_true_eq] at hz ⊢
  exact h.trans hz
/-- One that is ready is there. -/
theorem ready_ex (hok : wrongE uses = 0) (hg : GrpOk uses grp many) {dn : Nat → Bool} (hc : Clo uses grp dn) : ∀ (m x : Nat), rset uses x ≤ m → x < uses.length → dn (grp x) = false → ∃ k, k < uses.length ∧ dn (grp k) = false ∧ Rdy uses grp dn k := by
  intro m
  induction m with
  | zero =>
    intro x hm hx hd
    refine ⟨x, hx, hd, fun i hi => ?_⟩
    have hin := rch_lt hok hi hx
    by_cases hb : Rch (nbU uses) i x
    · exact .inr ((hg.same i x hin hx).2 ⟨hb, hi⟩)
    · have := rset_lt hok hx hi hb
      omega
  | succ m ih =>
    intro x hm hx hd
    by_cases hr : Rdy uses grp dn x
    · exact ⟨x, hx, hd, hr⟩
    · unfold Rdy at hr
      obtain ⟨i, hi⟩ := Classical.not_forall.1 hr
      obtain ⟨h1, h2⟩ := Classical.not_imp.1 hi
      have hin := rch_lt hok h1 hx
      have hdi : dn (grp i) = false := by
        cases h : dn (grp i) with
        | false => rfl
        | true => exact absurd (.inl h) h2
      have hb : ¬ Rch (nbU uses) i x := fun hb => h2 (.inr ((hg.same i x hin hx).2 ⟨hb, h1⟩))
      exact ih i (by have := rset_lt hok hx h1 hb; omega) hin hdi

theorem out_groups (hok : wrongE uses = 0) (hg : GrpOk uses grp many) : ∀ (f : Nat) (dn : Nat → Bool) (done : List Bool) (F : Nat), cntB many dn = f → Clo uses grp dn → Like uses grp dn done → done.count false ≤ F → outF uses grp f dn = groupsF uses F done := by
  intro f
  induction f with
  | zero =>
    intro dn done F hf hc hl hF
    have hnone : pickG uses done = none := by
      cases h : pickG uses done with
      | none => rfl
      | some k =>
        obtain ⟨h1, h2, _⟩ := pickG_some hl.1 h
        rw [hl.2 k h1, cntB_zero hf (hg.lt k h1)] at h2
        cases h2
    cases F with
    | zero => rfl
    | succ F => rw [groupsF, hnone, outF]
  | succ f ih =>
    intro dn done F hf hc hl hF
    obtain ⟨g, hgm, hgd⟩ := cntB_pos (d := dn) (n := many) (by omega)
    obtain ⟨x, hx, hxg⟩ := hg.mem g hgm
    obtain ⟨k0, hk0, hk0d, hk0r⟩ := ready_ex hok hg hc _ x (Nat.le_refl _) hx (by rw [hxg]; exact hgd)
    have hp := p_eq hok hg hc hl
    have hex : ∃ k, pickG uses done = some k := by
      cases h : pickG uses done with
      | some k => exact ⟨k, rfl⟩
      | none =>
        exfalso
        unfold pickG at h
        rw [List.find?_eq_none] at h
        refine h k0 (by simpa using hk0) ?_
        have hh := headN_grp hok hg hk0
        rw [Bool.and_eq_true, List.getD_eq_getElem?_getD, hl.2 k0 hk0, Option.getD_some, hk0d]
        exact ⟨rfl, (readyB_rdy hok hg hl hh.1).2 (hk0r.same hok hg hk0 hh.1 hh.2.symm)⟩
    obtain ⟨k, hk⟩ := hex
    obtain ⟨hkn, hkd, hkr⟩ := pickG_some hl.1 hk
    have hG : readyG uses grp dn = grp k := by unfold readyG; rw [← hp, hk]
    have hh := headN_grp hok hg hkn
    have hrdy : Rdy uses grp dn k := ((readyB_rdy hok hg hl hh.1).1 hkr).same hok hg hh.1 hkn hh.2
    have hdk : dn (grp k) = false := by rw [hl.2 k hkn] at hkd; exact Option.some.inj hkd
    have hlt := markL_lt (uses := uses) hkd
    cases F with
    | zero => omega
    | succ F =>
      rw [groupsF, hk, outF, hG]
      simp only
      rw [groupL_mem hok hg hkn]
      congr 1
      refine ih _ _ _ ?_ ?_ ?_ (by omega)
      · have := cntB_upd (hg.lt k hkn) hdk
        omega
      · intro y hy hyd t ht
        have htn := (edge_lt hok ((nb_edge hok).1 ht)).2
        by_cases htk : grp t = grp k
        · rw [htk, updN_same]
        · rw [updN_other _ _ htk]
          by_cases hyk : grp y = grp k
          · rcases hrdy t (.step ((hg.same k y hkn hy).1 hyk.symm).1 ht) with h | h
            · exact h
            · exact absurd h htk
          · rw [updN_other _ _ hyk] at hyd
            exact hc y hy hyd t ht
      · refine ⟨by rw [markL_len]; exact hl.1, fun i hi => ?_⟩
        rw [markL_at, hl.2 i hi, Option.map_some, sameB_grp hok hg hkn hi]
        congr 1
        by_cases hik : grp i = grp k
        · rw [hik, updN_same]; simp
        · rw [updN_other _ _ hik]
          have : (grp i == grp k) = false := by simpa using hik
          rw [this, Bool.or_false]
end

theorem groups_T (o : Bool) (uses : List (List Int)) (hr : ∀ r ∈ uses, Big r.length) : T Try.prog 10 [rows o uses] [] (.tup [rows true (groupsR uses).1, .int .i64 (groupsR uses).2]) [] := by
  by_cases hok : wrongE uses = 0
  · obtain ⟨s, inv, hord, h⟩ := groupsRaw_T o uses hok hr
    have hop := inv.empty
    have hn : ∀ x, x ∉ s.op := fun x => by rw [hop]; exact List.not_mem_nil
    have hg : GrpOk uses s.grp s.mny := ⟨fun x hx => inv.cgrp x (hord x hx) (hn x), fun g hg => by obtain ⟨x, h1, _, _, h2⟩ := inv.cmem g hg; exact ⟨x, h1, h2⟩, fun x y hx hy => inv.csam x y (hord x hx) (hn x) (hord y hy) (hn y)⟩
    have he : outF uses s.grp s.mny (fun _ => false) = groupsF uses uses.length (List.replicate uses.length false) := by
      refine out_groups hok hg _ _ _ _ ?_ (fun x _ h => by cases h) ⟨List.length_replicate, fun i hi => by rw [List.getElem?_replicate, if_pos hi]⟩ (by rw [List.count_replicate_self]; exact Nat.le_refl _)
      unfold cntB
      rw [List.filter_eq_self.2 (by simp)]; simp
    rw [he] at h
    unfold groupsR
    rw [if_neg (by simpa using hok)]
    exact h
  · refine T.of0 mix c10 rfl ?_
    unfold v10
    simp only [go_sem, ↓reduceIte, rows]
    refine ⟨_, _, right_T _ _ _ hr, ?_⟩
    simp only [go_sem, ↓reduceIte, rows]
    unfold groupsR
    rw [if_pos (by simpa using hok)]
    refine ⟨fun _ => rfl, fun h => absurd h (by simpa using hok)⟩
end Go.Proofs.Ytglemgdlkddjhaa.Vm

/-
The groups, part 20: in what order groups come.
-/
import Derived.Test.YtglemgdlkddjhaaGrp19
namespace Go.Proofs.Ytglemgdlkddjhaa.Vm
open Go

/-- Each group comes once, behind all that it needs. -/
def Good (uses : List (List Int)) (grp : Nat → Nat) (many : Nat) : (Nat → Bool) → List Nat → Prop
  | _, [] => True
  | dn, g :: gs => dn g = false ∧ g < many ∧ (∀ x, x < uses.length → grp x = g → ∀ t ∈ nbU uses x, dn (grp t) = true ∨ grp t = g) ∧ Good uses grp many (updN dn g true) gs

section
variable {uses : List (List Int)} {grp : Nat → Nat} {many : Nat}
theorem out_good (hok : wrongE uses = 0) (hg : GrpOk uses grp many) : ∀ (f : Nat) (dn : Nat → Bool), cntB many dn = f → Clo uses grp dn → ∃ gs, outF uses grp f dn = gs.map (fun g => natI (memL uses.length grp g)) ∧ Good uses grp many dn gs ∧ gs.length = f := by
  intro f
  induction f with
  | zero => intro dn _ _; exact ⟨[], rfl, True.intro, rfl⟩
  | succ f ih =>
    intro dn hf hc
    obtain ⟨g, hgm, hgd⟩ := cntB_pos (d := dn) (n := many) (by omega)
    obtain ⟨x, hx, hxg⟩ := hg.mem g hgm
    obtain ⟨k0, hk0, hk0d, hk0r⟩ := ready_ex hok hg hc _ x (Nat.le_refl _) hx (by rw [hxg]; exact hgd)
    have hex : ∃ k, (List.range uses.length).find? (readyP uses grp dn) = some k := by
      cases h : (List.range uses.length).find? (readyP uses grp dn) with
      | some k => exact ⟨k, rfl⟩
      | none =>
        exfalso
        rw [List.find?_eq_none] at h
        have hh := headN_grp hok hg hk0
        refine h (headN uses k0) (by simpa using hh.1) ?_
        unfold readyP
        rw [Bool.and_eq_true, Bool.and_eq_true, needsB_rdy hok hg hc hh.1, headN_mem hok hg hh.1, hh.2, hk0d, headN_same hok hg hh.1 hk0 hh.2]
        exact ⟨rfl, by simp, hk0r.same hok hg hk0 hh.1 hh.2.symm⟩
    obtain ⟨k, hk⟩ := hex
    have hkn : k < uses.length := by simpa using List.mem_of_find?_eq_some hk
    have hp := List.find?_some hk
    unfold readyP at hp
    rw [Bool.and_eq_true, Bool.and_eq_true, needsB_rdy hok hg hc hkn, Bool.not_eq_true'] at hp
    obtain ⟨hdk, _, hrdy⟩ := hp
    have hG : readyG uses grp dn = grp k := by unfold readyG; rw [hk]
    have hdir : ∀ y, y < uses.length → grp y = grp k → ∀ t ∈ nbU uses y, dn (grp t) = true ∨ grp t = grp k := fun y hy hyk t ht => hrdy t (.step ((hg.same k y hkn hy).1 hyk.symm).1 ht)
    obtain ⟨gs, h1, h2, h3⟩ := ih (updN dn (grp k) true) (by have := cntB_upd (hg.lt k hkn) hdk; omega) (by
      intro y hy hyd t ht
      by_cases htk : grp t = grp k
      · rw [htk, updN_same]
      · rw [updN_other _ _ htk]
        by_cases hyk : grp y = grp k
        · rcases hdir y hy hyk t ht with h | h
          · exact h
          · exact absurd h htk
        · rw [updN_other _ _ hyk] at hyd
          exact hc y hy hyd t ht)
    exact ⟨grp k :: gs, by rw [outF, hG, h1]; rfl, ⟨hdk, hg.lt k hkn, hdir, h2⟩, by simp [h3]⟩
theorem good_cover : ∀ {gs : List Nat} {dn : Nat → Bool}, Good uses grp many dn gs → gs.length = cntB many dn → ∀ g, g < many → dn g = true ∨ g ∈ gs
  | [], dn, _, hl, g, hg => .inl (cntB_zero hl.symm hg)
  | g0 :: gs, dn, h, hl, g, hg => by
    obtain ⟨h1, h2, _, h4⟩ := h
    have := cntB_upd h2 h1
    rcases good_cover h4 (by simp at hl; omega) g hg with h | h
    · by_cases hgg : g = g0
      · exact .inr (by rw [hgg]; exact List.mem_cons_self ..)
      · rw [updN_other _ _ hgg] at h; exact .inl h
    · exact .inr (List.mem_cons_of_mem _ h)
theorem good_free : ∀ {gs : List Nat} {dn : Nat → Bool}, Good uses grp many dn gs → ∀ g ∈ gs, dn g = false ∧ g < many
  | [], _, _, g, hg => by cases hg
  | g0 :: gs, dn, h, g, hg => by
    obtain ⟨h1, h2, _, h4⟩ := h
    rcases List.mem_cons.1 hg with rfl | hg
    · exact ⟨h1, h2⟩
    · obtain ⟨h5, h6⟩ := good_free h4 g hg
      by_cases hgg : g = g0
      · rw [hgg, updN_same] at h5; cases h5
      · rw [updN_other _ _ hgg] at h5; exact ⟨h5, h6⟩
theorem good_nodup : ∀ {gs : List Nat} {dn : Nat → Bool}, Good uses grp many dn gs → gs.Nodup
  | [], _, _ => List.nodup_nil
  | g0 :: gs, dn, h => by
    obtain ⟨_, _, _, h4⟩ := h
    refine List.nodup_cons.2 ⟨fun hm => ?_, good_nodup h4⟩
    have := (good_free h4 g0 hm).1
    rw [updN_same] at this; cases this
theorem good_behind : ∀ {gs : List Nat} {dn : Nat → Bool}, Good uses grp many dn gs → ∀ (i g : Nat), gs[i]? = some g → ∀ x, x < uses.length → grp x = g → ∀ t ∈ nbU uses x, dn (grp t) = true ∨ grp t ∈ gs.take (i + 1)
  | [], _, _, i, g, h => by simp at h
  | g0 :: gs, dn, h, i, g, hi => by
    obtain ⟨_, _, h3, h4⟩ := h
    intro x hx hxg t ht
    match i with
    | 0 =>
      simp at hi; subst hi
      rcases h3 x hx hxg t ht with h | h
      · exact .inl h
      · exact .inr (by simp [h])
    | i + 1 =>
      rcases good_behind h4 i g (by simpa using hi) x hx hxg t ht with h | h
      · by_cases hgg : grp t = g0
        · exact .inr (by simp [hgg])
        · rw [updN_other _ _ hgg] at h; exact .inl h
      · exact .inr (by rw [List.take_succ_cons]; exact List.mem_cons_of_mem _ h)
end

structure Parted (uses : List (List Int)) (grp : Nat → Nat) (gs : List Nat) : Prop where
  ok : GrpOk uses grp gs.length
  eq : (groupsR uses).1 = gs.map fun g => natI (memL uses.length grp g)
  err : (groupsR uses).2 = 0
  good : Good uses grp gs.length (fun _ => false) gs
theorem parted (uses : List (List Int)) (hok : wrongE uses = 0) (hr : ∀ r ∈ uses, Big r.length) : ∃ grp gs, Parted uses grp gs := by
  obtain ⟨s, inv, hord, _⟩ := groupsRaw_T false uses hok hr
  have hop := inv.empty
  have hn : ∀ x, x ∉ s.op := fun x => by rw [hop]; exact List.not_mem_nil
  have hg : GrpOk uses s.grp s.mny := ⟨fun x hx => inv.cgrp x (hord x hx) (hn x), fun g hg => by obtain ⟨x, h1, _, _, h2⟩ := inv.cmem g hg; exact ⟨x, h1, h2⟩, fun x y hx hy => inv.csam x y (hord x hx) (hn x) (hord y hy) (hn y)⟩
  have hcnt : cntB s.mny (fun _ => false) = s.mny := by
    unfold cntB
    rw [List.filter_eq_self.2 (by simp)]; simp
  have he : outF uses s.grp s.mny (fun _ => false) = groupsF uses uses.length (List.replicate uses.length false) :=
    out_groups hok hg _ _ _ _ hcnt (fun x _ h => by cases h) ⟨List.length_replicate, fun i hi => by rw [List.getElem?_replicate, if_pos hi]⟩ (by rw [List.count_replicate_self]; exact Nat.le_refl _)
  obtain ⟨gs, h1, h2, h3⟩ := out_good hok hg s.mny (fun _ => false) hcnt (fun x _ h => by cases h)
  have hR : groupsR uses = (groupsF uses uses.length (List.replicate uses.length false), 0) := by unfold groupsR; rw [if_neg (by simpa using hok)]
  refine ⟨s.grp, gs, ?_, ?_, ?_, ?_⟩
  · rw [h3]; exact hg
  · rw [hR]; simp only; rw [← he, h1]
  · rw [hR]
  · rw [h3]; exact h2
theorem parted_in {uses : List (List Int)} {grp : Nat → Nat} {gs : List Nat} (h : Parted uses grp gs) {x : Nat} (hx : x < uses.length) : grp x ∈ gs := by
  have hl : gs.length = cntB gs.length (fun _ => false) := by
    unfold cntB
    rw [List.filter_eq_self.2 (by simp)]; simp
  rcases good_cover h.good hl _ (h.ok.lt x hx) with h | h
  · cases h
  · exact h
theorem groupsR_wrong {uses : List (List Int)} (h : wrongE uses ≠ 0) : groupsR uses = ([], wrongE uses) := by unfold groupsR; rw [if_pos h]
/-- A group's members rise. -/
theorem memL_rise (n : Nat) (grp : Nat → Nat) (g : Nat) : (memL n grp g).Pairwise (· < ·) := List.pairwise_lt_range.filter _
theorem known_H (H : Heap) : T Try.prog 9 [] H (.bool true) H := known_T.frame rfl H
end Go.Proofs.Ytglemgdlkddjhaa.Vm

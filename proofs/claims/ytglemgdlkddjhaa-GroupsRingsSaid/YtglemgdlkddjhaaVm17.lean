/-
The value machine, part 17: steps and runs; what may be turned about.
-/
import Derived.Test.YtglemgdlkddjhaaVm16
namespace Go.Proofs.Ytglemgdlkddjhaa.Vm
open Go

/-- A function, handed these values in this heap, answers that, and leaves this heap. -/
def T (P : Program) (f : Nat) (args : List V) (H : Heap) (r : V) (H' : Heap) : Prop :=
  (∃ fn, P.funcs[f]? = some fn ∧ fn.body.isNone = false ∧ (fn.name == "runtime.NumGoroutine") = false) ∧
  ∀ (w : World) (G : Gh) (own : Nat → Option Place) (cs : Array Value) (bl : List Nat), Ok w G own H → RepL w G args cs.toList bl → bl.Nodup → (∀ b ∈ bl, own b = some .arg) →
    Calls P f cs w fun e w' => ∃ c, e = .returned c ∧ Post w G own r H' c w'

inductive Eff (P : Program) (v : VOp) : Env → Heap → Option V → Heap → Prop
  | skip {σ H} (hw : v.wanted σ = some false) : Eff P v σ H none H
  | act {σ H r H'} (hw : v.wanted σ = some true) (hs : v.act.sem (v.args.map (evalA σ v.take)) H = some (r, H')) : Eff P v σ H (some r) H'
  | call {σ H r H'} (b : Bool) (f : Nat) (caps rest : List V) (hw : v.wanted σ = some true) (ha : v.act = .call b) (hv : v.args.map (evalA σ v.take) = .fn f caps :: rest)
      (ht : T P f (rest ++ caps) H r H') (hp : b = true → H' = H) : Eff P v σ H (some r) H'

def app (v : VOp) : Option V → Env → Env
  | none, σ => updO σ v.dst (.tup [])
  | some r, σ => updO (stripE v.take σ) v.dst r

def VStep (P : Program) (v : VOp) (σ : Env) (H : Heap) (σ' : Env) (H' : Heap) : Prop := ∃ e, Eff P v σ H e H' ∧ σ' = app v e σ

inductive VRun (P : Program) : List VOp → Env → Heap → Env → Heap → Prop
  | nil {σ H} : VRun P [] σ H σ H
  | cons {v vs σ H σ1 H1 σ2 H2} (h : VStep P v σ H σ1 H1) (t : VRun P vs σ1 H1 σ2 H2) : VRun P (v :: vs) σ H σ2 H2

inductive Mode where
  | none | read | write
  deriving DecidableEq

def Act.mode : Act → Mode
  | .mv | .pick | .bin _ | .eqc .. | .isNil _ | .not | .neg | .conv _ | .same | .toStr | .build .. | .buildSl _ | .buildFr _ | .nilCheck | .fieldAddr _ | .field .. | .indexAddr _ | .indexStr | .slice .. | .sliceStr ..
  | .makeSl .. | .append .. | .appendS _ | .len | .lenStr | .min | .max | .extract _ | .mkfn _ => .none
  | .load .. | .appendR .. | .lookup .. | .mapLen => .read
  | .call b => if b then .read else .write
  | _ => .write

theorem map_fst {α : Type} {x : Option α} {H : Heap} {f : α → V} {r : V} {H' : Heap} (h : (x.map fun b => (f b, H)) = some (r, H')) : H' = H ∧ ∀ H2 : Heap, (x.map fun b => (f b, H2)) = some (r, H2) := by
  cases x with
  | none => cases h
  | some b => cases h; exact ⟨rfl, fun _ => rfl⟩

theorem ite_fst {c : Prop} [Decidable c] {x r : V} {H H' : Heap} (h : (if c then some (x, H) else none) = some (r, H')) : H' = H ∧ ∀ H2 : Heap, (if c then some (x, H2) else none) = some (r, H2) := by
  split at h
  · rename_i hc; cases h; exact ⟨rfl, fun _ => by rw [if_pos hc]⟩
  · cases h
theorem ite_mapfst {c : Prop} [Decidable c] {α : Type} {x : Option α} {f : α → V} {r : V} {H H' : Heap} (h : (if c then x.map fun b => (f b, H) else none) = some (r, H')) :
    H' = H ∧ ∀ H2 : Heap, (if c then x.map fun b => (f b, H2) else none) = some (r, H2) := by
  split at h
  · rename_i hc; obtain ⟨a, b⟩ := map_fst h; exact ⟨a, fun H2 => by rw [if_pos hc]; exact b H2⟩
  · cases h
theorem some_fst {x r : V} {H H' : Heap} (h : some (x, H) = some (r, H')) : H' = H ∧ ∀ H2 : Heap, some (x, H2) = some (r, H2) := by
  cases h; exact ⟨rfl, fun _ => rfl⟩

theorem sem_none {a : Act} {vs : List V} {H : Heap} {r : V} {H' : Heap} (h : a.sem vs H = some (r, H')) (hm : a.mode = .none) : H' = H ∧ ∀ H2, a.sem vs H2 = some (r, H2) := by
  cases a <;> simp only [Act.mode, reduceCtorEq] at hm <;> simp only [Act.sem] at h ⊢
  case mv => unfold sMv at h ⊢; split at h <;> first | exact some_fst h | cases h
  case pick => unfold sPick at h ⊢; split at h <;> first | exact some_fst h | cases h
  case bin op =>
    unfold sBin at h ⊢; split at h
    · split at h
      · rename_i hj; simp only [if_pos hj] at h ⊢; exact map_fst h
      · cases h
    · exact map_fst h
    · cases h
  case eqc => unfold sEqc at h ⊢; split at h <;> first | exact map_fst h | cases h
  case isNil => unfold sIsNil at h ⊢; split at h <;> first | exact map_fst h | cases h
  case not => unfold sNot at h ⊢; split at h <;> first | exact some_fst h | cases h
  case neg => unfold sNeg at h ⊢; split at h <;> first | exact some_fst h | cases h
  case conv => unfold sConv at h ⊢; split at h <;> first | exact some_fst h | cases h
  case same => unfold sSame at h ⊢; split at h <;> first | exact some_fst h | cases h
  case toStr => unfold sToStr at h ⊢; split at h <;> first | exact map_fst h | cases h
  case build => unfold sBuild at h ⊢; exact map_fst h
  case buildSl => unfold sBuildSl at h ⊢; exact map_fst h
  case buildFr =>
    unfold sBuildFr at h ⊢
    cases he : elems _ _ with
    | none => rw [he] at h; cases h
    | some xs => rw [he] at h; simp only [he, Option.bind_some] at h ⊢; exact ite_fst h
  case nilCheck => unfold sNilCheck at h ⊢; split at h <;> first | exact some_fst h | cases h
  case fieldAddr => unfold sFieldAddr at h ⊢; split at h <;> first | exact some_fst h | cases h
  case field off n agg =>
    unfold sField at h ⊢; split at h
    · rename_i cs
      cases hc : cut cs off n with
      | none => simp [hc] at h
      | some l => simp only [hc, Option.bind_some] at h ⊢; exact map_fst h
    · cases h
  case indexAddr => unfold sIndexAddr at h ⊢; split at h <;> first | exact ite_mapfst h | exact ite_fst h | cases h
  case indexStr => unfold sIndexStr at h ⊢; split at h <;> first | exact ite_mapfst h | cases h
  case slice lo hi sz => unfold sSlice at h ⊢; split at h <;> first | exact ite_mapfst h | exact map_fst h | cases h
  case sliceStr => unfold sSliceStr at h ⊢; split at h <;> first | exact map_fst h | cases h
  case makeSl => unfold sMakeSl at h ⊢; split at h <;> first | exact ite_fst h | cases h
  case append => unfold sAppend at h ⊢; split at h <;> first | exact ite_fst h | cases h
  case appendS => unfold sAppendS at h ⊢; split at h <;> first | exact ite_fst h | cases h
  case len => unfold sLen at h ⊢; split at h <;> first | exact some_fst h | cases h
  case lenStr => unfold sLenStr at h ⊢; split at h <;> first | exact some_fst h | cases h
  case min => unfold sMin at h ⊢; split at h <;> first | exact ite_fst h | cases h
  case max => unfold sMax at h ⊢; split at h <;> first | exact ite_fst h | cases h
  case extract => unfold sExtract at h ⊢; split at h <;> first | exact map_fst h | cases h
  case mkfn => unfold sMkfn at h ⊢; exact some_fst h
  case call => split at hm <;> cases hm

theorem sem_read {a : Act} {vs : List V} {H : Heap} {r : V} {H' : Heap} (h : a.sem vs H = some (r, H')) (hm : a.mode ≠ .write) : H' = H := by
  by_cases hn : a.mode = .none
  · exact (sem_none h hn).1
  · cases a <;> simp only [Act.mode, not_true_eq_false, ne_eq, reduceCtorEq] at hm hn <;> simp only [Act.sem] at h
    case load n agg =>
      unfold sLoad at h; split at h
      · obtain ⟨_, _, h⟩ := Option.bind_eq_some_iff.1 h
        obtain ⟨_, _, h⟩ := Option.bind_eq_some_iff.1 h
        obtain ⟨_, _, h⟩ := Option.map_eq_some_iff.1 h
        cases h; rfl
      · obtain ⟨_, _, h⟩ := Option.bind_eq_some_iff.1 h
        obtain ⟨_, _, h⟩ := Option.map_eq_some_iff.1 h
        cases h; rfl
      · cases h
    case appendR =>
      unfold sAppendR at h; split at h
      · split at h
        · obtain ⟨_, _, h⟩ := Option.bind_eq_some_iff.1 h
          obtain ⟨_, _, h⟩ := Option.bind_eq_some_iff.1 h
          obtain ⟨_, _, h⟩ := Option.map_eq_some_iff.1 h
          cases h; rfl
        · cases h
      · cases h
    case lookup =>
      unfold sLookup at h; split at h
      · obtain ⟨_, _, h⟩ := Option.bind_eq_some_iff.1 h
        obtain ⟨_, _, h⟩ := Option.bind_eq_some_iff.1 h
        split at h
        · obtain ⟨_, _, h⟩ := Option.map_eq_some_iff.1 h
          cases h; rfl
        · obtain ⟨_, _, h⟩ := Option.map_eq_some_iff.1 h
          cases h; rfl
      · cases h
    case mapLen =>
      unfold sMapLen at h; split at h
      · obtain ⟨_, _, h⟩ := Option.map_eq_some_iff.1 h
        cases h; rfl
      · cases h
    case call => cases h

/-- The slots that an operation looks at, and those that it turns. -/
def VOp.reads (v : VOp) : List Nat := (v.args.filterMap fun | .t i => some i | .c _ => none) ++ (match v.guard with | some (g, _) => [g] | none => [])
def VOp.writes (v : VOp) : List Nat := v.dst.toList ++ v.take

def indep (a b : VOp) : Bool :=
  (a.writes.all fun i => !b.reads.contains i && !b.writes.contains i) && (b.writes.all fun i => !a.reads.contains i) &&
  !(a.act.mode = .write && b.act.mode ≠ .none) && !(b.act.mode = .write && a.act.mode ≠ .none)

theorem app_out {v : VOp} {e : Option V} {σ : Env} {i : Nat} (h : i ∉ v.writes) : app v e σ i = σ i := by
  simp only [VOp.writes, List.mem_append, not_or] at h
  have hd : ∀ (τ : Env) (x : V), updO τ v.dst x i = τ i := by
    intro τ x
    cases hd : v.dst with
    | none => rfl
    | some d =>
      have : i ≠ d := by intro e; apply h.1; rw [hd, e]; simp
      simp [updO, upd, this]
  cases e with
  | none => exact hd _ _
  | some r =>
    show updO (stripE v.take σ) v.dst r i = σ i
    rw [hd]; simp [stripE, h.2]

theorem eval_congr {v : VOp} {σ τ : Env} (h : ∀ i ∈ v.reads, σ i = τ i) : v.args.map (evalA σ v.take) = v.args.map (evalA τ v.take) := by
  apply List.map_congr_left
  intro a ha
  cases a with
  | c _ => rfl
  | t i =>
    have : σ i = τ i := h i (List.mem_append_left _ (List.mem_filterMap.2 ⟨.t i, ha, rfl⟩))
    simp [evalA, this]
theorem wanted_congr {v : VOp} {σ τ : Env} (h : ∀ i ∈ v.reads, σ i = τ i) : v.wanted σ = v.wanted τ := by
  unfold VOp.wanted
  cases hg : v.guard with
  | none => rfl
  | some p =>
    obtain ⟨g, b⟩ := p
    have : σ g = τ g := h g (List.mem_append_right _ (by rw [hg]; simp))
    simp [this]

theorem Eff.keeps {P : Program} {v : VOp} {σ : Env} {H : Heap} {e : Option V} {H' : Heap} (h : Eff P v σ H e H') (hm : v.act.mode ≠ .write) : H' = H := by
  cases h with
  | skip _ => rfl
  | act _ hs => exact sem_read hs hm
  | call b f caps rest _ ha _ _ hp =>
    rw [ha] at hm
    cases b with
    | true => exact hp rfl
    | false => exact absurd rfl hm

theorem Eff.congr {P : Program} {v : VOp} {σ τ : Env} {H H2 : Heap} {e : Option V} {H' : Heap} (h : Eff P v σ H e H') (hr : ∀ i ∈ v.reads, σ i = τ i) (hm : v.act.mode ≠ .none → H2 = H) :
    Eff P v τ H2 e (if v.act.mode = .none then H2 else H') := by
  cases h with
  | skip hw =>
    have : (if v.act.mode = .none then H2 else H) = H2 := by
      split
      · rfl
      · rename_i hn; exact (hm hn).symm
    rw [this]
    exact .skip (by rw [← wanted_congr hr]; exact hw)
  | act hw hs =>
    rw [eval_congr hr] at hs
    rw [wanted_congr hr] at hw
    split
    · rename_i hn; exact .act hw ((sem_none hs hn).2 H2)
    · rename_i hn; rw [hm hn]; exact .act hw hs
  | call b f caps rest hw ha hv ht hp =>
    rw [eval_congr hr] at hv
    rw [wanted_congr hr] at hw
    have hn : v.act.mode ≠ .none := by rw [ha]; cases b <;> simp [Act.mode]
    rw [if_neg hn, hm hn]
    exact .call b f caps rest hw ha hv ht hp

theorem VStep.swap {P : Program} {a b : VOp} {σ σ1 σ2 : Env} {H H1 H2 : Heap} (h1 : VStep P a σ H σ1 H1) (h2 : VStep P b σ1 H1 σ2 H2) (hi : indep a b = true) :
    ∃ τ K, VStep P b σ H τ K ∧ VStep P a τ K σ2 H2 := by
  simp only [indep, Bool.and_eq_true, List.all_eq_true, Bool.not_eq_true', Bool.and_eq_false_iff, decide_eq_false_iff_not, decide_eq_true_eq, ne_eq, List.contains_eq_mem] at hi
  obtain ⟨⟨⟨i1, i2⟩, i3⟩, i4⟩ := hi
  obtain ⟨ea, fa, rfl⟩ := h1
  obtain ⟨eb, fb, rfl⟩ := h2
  have ra : ∀ i ∈ b.reads, app a ea σ i = σ i := fun i hi => app_out fun hw => (i1 i hw).1 hi
  have rb : ∀ i ∈ a.reads, σ i = app b eb σ i := fun i hi => (app_out fun hw => i2 i hw hi).symm
  have hcomm : app b eb (app a ea σ) = app a ea (app b eb σ) := by
    funext i
    by_cases ha : i ∈ a.writes
    · have hb : i ∉ b.writes := (i1 i ha).2
      rw [app_out hb]
      have hag : ∀ (τ : Env), τ i = σ i → app a ea τ i = app a ea σ i := by
        intro τ hτ
        have hupd : ∀ (τ1 τ2 : Env) (x : V), τ1 i = τ2 i → updO τ1 a.dst x i = updO τ2 a.dst x i := by
          intro τ1 τ2 x h
          cases a.dst with
          | none => exact h
          | some d => simp only [updO, upd]; split <;> first | rfl | exact h
        cases ea with
        | none => exact hupd _ _ _ hτ
        | some r => exact hupd _ _ _ (by simp only [stripE, hτ])
      exact (hag _ (app_out hb)).symm
    · rw [app_out ha]
      have hupd : ∀ (τ1 τ2 : Env) (x : V), τ1 i = τ2 i → updO τ1 b.dst x i = updO τ2 b.dst x i := by
        intro τ1 τ2 x h
        cases b.dst with
        | none => exact h
        | some d => simp only [updO, upd]; split <;> first | rfl | exact h
      have ho : app a ea σ i = σ i := app_out ha
      cases eb with
      | none => exact hupd _ _ _ ho
      | some r => exact hupd _ _ _ (by simp only [stripE, ho])
  by_cases hmb : b.act.mode = .none
  · -- b looks at no memory
    have k1 : H2 = H1 := fb.keeps (by rw [hmb]; simp)
    have f1 := fb.congr (τ := σ) (H2 := H) ra (fun h => absurd hmb h)
    rw [if_pos hmb] at f1
    refine ⟨_, H, ⟨eb, f1, rfl⟩, ea, ?_, hcomm⟩
    have f2 := fa.congr (τ := app b eb σ) (H2 := H) rb (fun _ => rfl)
    by_cases hma : a.act.mode = .none
    · rw [if_pos hma] at f2
      rw [k1, fa.keeps (by rw [hma]; simp)]; exact f2
    · rw [if_neg hma] at f2
      rw [k1]; exact f2
  · have hma : a.act.mode ≠ .write := by
      rcases i3 with h | h
      · exact h
      · exact absurd hmb h
    have k1 : H1 = H := fa.keeps hma
    subst k1
    have f1 := fb.congr (τ := σ) (H2 := H1) ra (fun _ => rfl)
    rw [if_neg hmb] at f1
    refine ⟨_, H2, ⟨eb, f1, rfl⟩, ea, ?_, hcomm⟩
    by_cases hma0 : a.act.mode = .none
    · have f2 := fa.congr (τ := app b eb σ) (H2 := H2) rb (fun h => absurd hma0 h)
      rw [if_pos hma0] at f2; exact f2
    · have hbw : b.act.mode ≠ .write := by
        rcases i4 with h | h
        · exact h
        · exact absurd hma0 h
      have k2 : H2 = H1 := fb.keeps hbw
      subst k2
      have f2 := fa.congr (τ := app b eb σ) (H2 := H2) rb (fun _ => rfl)
      rw [if_neg hma0] at f2; exact f2

theorem VRun.front {P : Program} {j : VOp} {B : List VOp} : ∀ {A : List VOp} {σ σ2 : Env} {H H2 : Heap}, VRun P (A ++ j :: B) σ H σ2 H2 → (∀ a ∈ A, indep a j = true) →
    ∃ σ1 H1, VStep P j σ H σ1 H1 ∧ VRun P (A ++ B) σ1 H1 σ2 H2
  | [], σ, σ2, H, H2, h, _ => by
    cases h with
    | cons h t => exact ⟨_, _, h, t⟩
  | a :: A, σ, σ2, H, H2, h, hi => by
    cases h with
    | cons h t =>
      obtain ⟨σ1, H1, k1, k2⟩ := VRun.front t fun x hx => hi x (List.mem_cons_of_mem _ hx)
      obtain ⟨τ, K, s1, s2⟩ := h.swap k1 (hi a (List.mem_cons_self ..))
      exact ⟨τ, K, s1, .cons s2 k2⟩

end Go.Proofs.Ytglemgdlkddjhaa.Vm

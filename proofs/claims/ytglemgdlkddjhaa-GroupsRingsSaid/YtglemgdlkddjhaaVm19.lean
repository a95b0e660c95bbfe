/-
The value machine, part 19: regions, those too that draw their order.
-/
import Derived.Test.YtglemgdlkddjhaaVm18
namespace Go.Proofs.Ytglemgdlkddjhaa.Vm
open Go

/-- The slots that are looked at again; all else is forgotten. -/
def keepE (keep : List Nat) (σ : Env) : Env := fun i => if i ∈ keep then σ i else .u

def chkOps (P : Program) (ops : Array Oper) (n : Nat) : List Oper → List VOp → Bool
  | [], [] => true
  | o :: l, v :: vs => chkOp P ops n o v && chkOps P ops n l vs
  | _, _ => false

def bound (o : Oper) : List Nat := (o.after.toList.filter (Region.binds .any ·)).map (·.on)
def maskOf (acc : List Nat) (o : Oper) : Nat := (bound o).foldl (fun s k => s ||| (2 ^ k ||| acc.getD k 0)) 0
def masks : List Oper → List Nat → List Nat
  | [], acc => acc
  | o :: l, acc => masks l (acc ++ [maskOf acc o])

def drawRow (v : VOp) (m : Nat) : List VOp → Nat → Bool
  | [], _ => true
  | a :: l, i => (m.testBit i || indep a v) && drawRow v m l (i + 1)
def drawAll (all : List VOp) : List VOp → List Nat → Nat → Bool
  | v :: vs, m :: ms, i => drawRow v m (all.take i) 0 && drawAll all vs ms (i + 1)
  | _, _, _ => true
def drawOk (ops : List Oper) (vs : List VOp) : Bool := drawAll vs vs (masks ops []) 0

theorem drawRow_spec {v : VOp} {m : Nat} : ∀ {l : List VOp} {i : Nat}, drawRow v m l i = true → ∀ (k : Nat) (a : VOp), l[k]? = some a → m.testBit (i + k) = false → indep a v = true
  | [], i, _, k, a, h, _ => by simp at h
  | x :: l, i, hd, k, a, h, hb => by
    simp only [drawRow, Bool.and_eq_true, Bool.or_eq_true] at hd
    match k with
    | 0 =>
      simp at h; subst h
      rcases hd.1 with h | h
      · simp at hb; rw [hb] at h; cases h
      · exact h
    | k + 1 => exact drawRow_spec hd.2 k a (by simpa using h) (by rw [show i + 1 + k = i + (k + 1) by omega]; exact hb)

theorem drawAll_spec {all : List VOp} : ∀ {vs : List VOp} {ms : List Nat} {i : Nat}, drawAll all vs ms i = true → ∀ (k : Nat) (v : VOp) (m : Nat), vs[k]? = some v → ms[k]? = some m → drawRow v m (all.take (i + k)) 0 = true
  | [], ms, i, _, k, v, m, h, _ => by simp at h
  | x :: vs, [], i, _, k, v, m, _, h => by simp at h
  | x :: vs, y :: ms, i, hd, k, v, m, h1, h2 => by
    simp only [drawAll, Bool.and_eq_true] at hd
    match k with
    | 0 => simp at h1 h2; subst h1 h2; exact hd.1
    | k + 1 =>
      have := drawAll_spec hd.2 k v m (by simpa using h1) (by simpa using h2)
      rw [show i + 1 + k = i + (k + 1) by omega] at this; exact this

theorem fold_bit (acc : List Nat) (a : Nat) : ∀ (l : List Nat) (s : Nat), (l.foldl (fun s k => s ||| (2 ^ k ||| acc.getD k 0)) s).testBit a = true → s.testBit a = true ∨ ∃ k ∈ l, a = k ∨ (acc.getD k 0).testBit a = true
  | [], s, h => .inl h
  | k :: l, s, h => by
    rcases fold_bit acc a l _ h with h | ⟨k', h1, h2⟩
    · rw [Nat.testBit_or, Nat.testBit_or] at h
      simp only [Bool.or_eq_true] at h
      rcases h with h | h | h
      · exact .inl h
      · refine .inr ⟨k, List.mem_cons_self .., .inl ?_⟩
        rw [Nat.testBit_two_pow] at h
        exact (of_decide_eq_true h).symm
      · exact .inr ⟨k, List.mem_cons_self .., .inr h⟩
    · exact .inr ⟨k', List.mem_cons_of_mem _ h1, h2⟩

theorem masks_len : ∀ (l : List Oper) (acc : List Nat), (masks l acc).length = acc.length + l.length
  | [], acc => by simp [masks]
  | o :: l, acc => by rw [masks, masks_len l]; simp; omega
theorem masks_old : ∀ (l : List Oper) (acc : List Nat) (i : Nat), i < acc.length → (masks l acc)[i]? = acc[i]?
  | [], acc, i, h => rfl
  | o :: l, acc, i, h => by rw [masks, masks_old l _ i (by simp; omega), List.getElem?_append_left h]
theorem masks_new : ∀ (l : List Oper) (acc : List Nat) (k : Nat) (o : Oper), l[k]? = some o → ∃ acc', acc'.length = acc.length + k ∧ (masks l acc)[acc.length + k]? = some (maskOf acc' o) ∧ ∀ i, i < acc'.length → acc'[i]? = (masks l acc)[i]?
  | [], acc, k, o, h => by simp at h
  | x :: l, acc, k, o, h => by
    match k with
    | 0 =>
      simp at h; subst h
      refine ⟨acc, rfl, ?_, fun i hi => ?_⟩
      · rw [masks, masks_old l _ _ (by simp)]; simp
      · rw [masks_old (x :: l) acc i hi]
    | k + 1 =>
      obtain ⟨acc', h1, h2, h3⟩ := masks_new l (acc ++ [maskOf acc x]) k o (by simpa using h)
      refine ⟨acc', by rw [h1]; simp; omega, ?_, h3⟩
      rw [masks]
      rw [← h2]; congr 1; simp; omega

/-- What a mask bears is listed, if all that the operation waits for is. -/
theorem mask_listed {ops : List Oper} {ls : Nat → Bool} (hcl : ∀ k o, ops[k]? = some o → ls k = true → ∀ e ∈ bound o, ls e = true) :
    ∀ (i : Nat) (o : Oper) (m : Nat), ops[i]? = some o → (masks ops [])[i]? = some m → (∀ e ∈ bound o, ls e = true) → ∀ a, m.testBit a = true → ls a = true := by
  intro i
  induction i using Nat.strongRecOn with
  | ind i ih =>
    intro o m ho hm hb a ha
    obtain ⟨acc, h1, h2, h3⟩ := masks_new ops [] i o ho
    simp only [List.length_nil, Nat.zero_add] at h1 h2
    rw [hm] at h2
    cases h2
    rcases fold_bit acc a _ _ ha with h | ⟨k, hk, h⟩
    · simp at h
    · rcases h with rfl | h
      · exact hb a hk
      · have hlt : k < acc.length := by
          rcases Nat.lt_or_ge k acc.length with h' | h'
          · exact h'
          · rw [List.getD_eq_getElem?_getD, List.getElem?_eq_none h'] at h; simp at h
        have hki : k < i := by omega
        have hlo : k < ops.length := by
          have := (List.getElem?_eq_some_iff.1 ho).1; omega
        have hmk : (masks ops [])[k]? = some (acc.getD k 0) := by
          rw [← h3 k hlt, List.getD_eq_getElem?_getD, List.getElem?_eq_getElem hlt]; rfl
        exact ih k hki ops[k] _ (List.getElem?_eq_getElem hlo) hmk (hcl k _ (List.getElem?_eq_getElem hlo) (hb k hk)) a h

theorem chkOps_get {P : Program} {ops : Array Oper} {n : Nat} : ∀ {l : List Oper} {vs : List VOp}, chkOps P ops n l vs = true → l.length = vs.length ∧ ∀ (k : Nat) (o : Oper), l[k]? = some o → ∃ v, vs[k]? = some v ∧ chkOp P ops n o v = true
  | [], [], _ => ⟨rfl, fun k o h => by simp at h⟩
  | [], _ :: _, h => by cases h
  | _ :: _, [], h => by cases h
  | x :: l, v :: vs, h => by
    simp only [chkOps, Bool.and_eq_true] at h
    obtain ⟨h1, h2⟩ := chkOps_get h.2
    refine ⟨by simp [h1], fun k o hk => ?_⟩
    match k with
    | 0 => simp at hk; subst hk; exact ⟨v, rfl, h.1⟩
    | k + 1 => exact h2 k o (by simpa using hk)

section
variable {P : Program} {n : Nat}

/-- From here on the code ends so, in such a state. -/
def Ends (P : Program) (n : Nat) (w : World) (G : Gh) (own : Nat → Option Place) (ex : Exit) (σ' : Env) (H' : Heap) (e : Exit) (a' : Go.Act) (w' : World) : Prop :=
  e = ex ∧ ∃ G' own', At w' G' own' σ' H' n a' ∧ Ext w G own w' G' own'

theorem At.keep {w : World} {G : Gh} {own : Nat → Option Place} {σ : Env} {H : Heap} {a : Go.Act} (h : At w G own σ H n a) (keep : List Nat) : At w G own (keepE keep σ) H n a := by
  refine ⟨h.ok, fun i => ?_, h.size, h.defers⟩
  by_cases hi : i ∈ keep
  · simpa [keepE, hi] using h.slots i
  · exact ⟨[], by simpa [keepE, hi] using RepL.u _ .nil, List.nodup_nil, fun _ h => by cases h⟩

theorem run_list {ops : Array Oper} {Q : Exit → Go.Act → World → Prop} : ∀ {l : List Oper} {vs : List VOp} {k : Nat} {σ : Env} {H : Heap} {σ' : Env} {H' : Heap} {w : World} {G : Gh} {own : Nat → Option Place} {a : Go.Act},
    (∀ j, l[j]? = ops[k + j]?) → chkOps P ops n l vs = true → VRun P vs σ H σ' H' → At w G own σ H n a → (∀ a' w' G' own', At w' G' own' σ' H' n a' → Ext w G own w' G' own' → Q .normal a' w') → wpOps P ops Q (List.range' k l.length) a w
  | [], [], k, σ, H, σ', H', w, G, own, a, hl, hc, hr, hat, hQ => by
    cases hr
    exact hQ a w G own hat (Ext.refl ..)
  | [], _ :: _, _, _, _, _, _, _, _, _, _, _, hc, _, _, _ => by cases hc
  | _ :: _, [], _, _, _, _, _, _, _, _, _, _, hc, _, _, _ => by cases hc
  | o :: l, v :: vs, k, σ, H, σ', H', w, G, own, a, hl, hc, hr, hat, hQ => by
    simp only [chkOps, Bool.and_eq_true] at hc
    cases hr with
    | cons h t =>
      have h0 : ops[k]? = some o := by have := hl 0; simpa using this.symm
      rw [List.length_cons, List.range'_succ, wpOps_cons]
      refine wpOp_sound h0 hc.1 hat h fun a1 w1 G1 own1 hat1 hx1 => ?_
      refine run_list (fun j => by have := hl (j + 1); simpa [Nat.add_assoc, Nat.add_comm 1 j] using this) hc.2 t hat1 fun a2 w2 G2 own2 hat2 hx2 => hQ a2 w2 G2 own2 hat2 (hx1.trans hx2)

/-- The operations that are not listed yet, in the order of the text. -/
def left (ls : Nat → Bool) (vs : List VOp) : Nat → List VOp
  | 0 => []
  | k + 1 => left ls vs k ++ (if ls k then [] else (vs[k]?).toList)

theorem left_split {ls : Nat → Bool} {vs : List VOp} {i : Nat} {v : VOp} (hv : vs[i]? = some v) (hi : ls i = false) : ∀ (m : Nat), i < m →
    ∃ B, left ls vs m = left ls vs i ++ v :: B ∧ left (fun k => if k = i then true else ls k) vs m = left ls vs i ++ B
  | 0, h => by omega
  | m + 1, h => by
    by_cases hm : i = m
    · subst hm
      have hsame : ∀ k, k ≤ i → left (fun k => if k = i then true else ls k) vs k = left ls vs k := by
        intro k
        induction k with
        | zero => intro _; rfl
        | succ k ih =>
          intro hk
          have hne : k ≠ i := by omega
          simp only [left]; rw [ih (by omega)]; simp [hne]
      refine ⟨[], ?_, ?_⟩
      · simp only [left, hi, hv]; simp
      · simp only [left]; rw [hsame i (Nat.le_refl _)]; simp
    · obtain ⟨B, h1, h2⟩ := left_split hv hi m (by omega)
      refine ⟨B ++ (if ls m then [] else (vs[m]?).toList), ?_, ?_⟩
      · simp only [left]; rw [h1]; simp
      · have hne : m ≠ i := by omega
        simp only [left]; rw [h2]; simp [hne]

theorem left_mem {ls : Nat → Bool} {vs : List VOp} {a : VOp} : ∀ {m : Nat}, a ∈ left ls vs m → ∃ k, k < m ∧ ls k = false ∧ vs[k]? = some a
  | 0, h => by cases h
  | m + 1, h => by
    rcases List.mem_append.1 h with h | h
    · obtain ⟨k, h1, h2, h3⟩ := left_mem h
      exact ⟨k, by omega, h2, h3⟩
    · split at h
      · cases h
      · rename_i hl
        exact ⟨m, by omega, by simpa using hl, by simpa using h⟩

theorem left_all {vs : List VOp} : ∀ (m : Nat), m ≤ vs.length → left (fun _ => false) vs m = vs.take m
  | 0, _ => by simp [left]
  | m + 1, h => by
    simp only [left]
    rw [left_all m (by omega), List.take_add_one]
    simp

theorem left_none {ls : Nat → Bool} {vs : List VOp} : ∀ (m : Nat), (∀ k, k < m → ls k = true) → left ls vs m = []
  | 0, _ => rfl
  | m + 1, h => by simp only [left]; rw [left_none m fun k hk => h k (by omega), h m (by omega)]; rfl

theorem ready_mem {ops : Array Oper} {listed : Array Bool} {i : Nat} (h : i ∈ Region.ready .any ops listed) : ∃ o, ops[i]? = some o ∧ listed.getD i true = false ∧ ∀ e ∈ bound o, listed.getD e false = true := by
  simp only [Region.ready, List.mem_filter, List.mem_range, Bool.and_eq_true, Bool.not_eq_true'] at h
  obtain ⟨h1, h2, h3⟩ := h
  have ho : ops[i]? = some ops[i] := Array.getElem?_eq_getElem h1
  refine ⟨ops[i], ho, h2, ?_⟩
  rw [ho] at h3
  simp only [Option.map_some, Option.getD_some, Array.all_eq_true_iff_forall_mem, Bool.or_eq_true, Bool.not_eq_true'] at h3
  intro e he
  simp only [bound, List.mem_map, List.mem_filter] at he
  obtain ⟨x, ⟨hx1, hx2⟩, rfl⟩ := he
  rcases h3 x (Array.mem_toList_iff.1 hx1) with h | h
  · rw [hx2] at h; cases h
  · exact h

/-- If something is left, something is ready. -/
theorem ready_some {ops : Array Oper} {listed : Array Bool} (hsz : listed.size = ops.size) (hfw : ∀ k o, ops[k]? = some o → ∀ e ∈ bound o, e < k) (h : Region.ready .any ops listed = []) : ∀ k, k < ops.size → listed.getD k false = true := by
  intro k
  induction k using Nat.strongRecOn with
  | ind k ih =>
    intro hk
    cases hl : listed.getD k false with
    | true => rfl
    | false =>
      exfalso
      have hlk : listed.getD k true = false := by
        simp only [Array.getD_eq_getD_getElem?] at hl ⊢
        rw [Array.getElem?_eq_getElem (by omega)] at hl ⊢
        simpa using hl
      have : k ∈ Region.ready .any ops listed := by
        simp only [Region.ready, List.mem_filter, List.mem_range, Bool.and_eq_true, Bool.not_eq_true']
        refine ⟨hk, hlk, ?_⟩
        have ho : ops[k]? = some ops[k] := Array.getElem?_eq_getElem hk
        rw [ho]
        simp only [Option.map_some, Option.getD_some, Array.all_eq_true_iff_forall_mem, Bool.or_eq_true, Bool.not_eq_true']
        intro x hx
        cases hb : Region.binds .any x with
        | false => exact .inl rfl
        | true =>
          right
          have hm : x.on ∈ bound ops[k] := by
            simp only [bound, List.mem_map, List.mem_filter]
            exact ⟨x, ⟨Array.mem_toList_iff.2 hx, hb⟩, rfl⟩
          have hlt := hfw k _ ho _ hm
          exact ih x.on hlt (by omega)
      rw [h] at this; cases this

def forwardOk : List Oper → Nat → Bool
  | [], _ => true
  | o :: l, k => (bound o).all (· < k) && forwardOk l (k + 1)
theorem forwardOk_spec : ∀ {l : List Oper} {k : Nat}, forwardOk l k = true → ∀ j o, l[j]? = some o → ∀ e ∈ bound o, e < k + j
  | [], k, _, j, o, h => by simp at h
  | x :: l, k, hf, j, o, h => by
    simp only [forwardOk, Bool.and_eq_true, List.all_eq_true, decide_eq_true_eq] at hf
    match j with
    | 0 => simp at h; subst h; intro e he; have := hf.1 e he; omega
    | j + 1 =>
      intro e he
      have := forwardOk_spec hf.2 j o (by simpa using h) e he
      omega

theorem any_sound {ops : Array Oper} {vs : List VOp} {Q : Exit → Go.Act → World → Prop} (hc : chkOps P ops n ops.toList vs = true) (hd : drawOk ops.toList vs = true) (hf : forwardOk ops.toList 0 = true) :
    ∀ (fuel : Nat) (listed : Array Bool) {σ : Env} {H : Heap} {σ' : Env} {H' : Heap} {w : World} {G : Gh} {own : Nat → Option Place} {a : Go.Act}, listed.size = ops.size →
      (∀ k o, ops[k]? = some o → listed.getD k false = true → ∀ e ∈ bound o, listed.getD e false = true) → fuel = (left (fun k => listed.getD k false) vs ops.size).length →
      VRun P (left (fun k => listed.getD k false) vs ops.size) σ H σ' H' → At w G own σ H n a → (∀ a' w' G' own', At w' G' own' σ' H' n a' → Ext w G own w' G' own' → Q .normal a' w') → wpAny P .any ops Q fuel listed a w := by
  obtain ⟨hlen, hget⟩ := chkOps_get hc
  have hlen : ops.size = vs.length := by rw [← hlen]; exact Array.length_toList.symm
  have hfw : ∀ k o, ops[k]? = some o → ∀ e ∈ bound o, e < k := by
    intro k o ho e he
    have := forwardOk_spec hf k o (by rw [Array.getElem?_toList]; exact ho) e he
    omega
  have done : ∀ (listed : Array Bool), listed.size = ops.size → Region.ready .any ops listed = [] → left (fun k => listed.getD k false) vs ops.size = [] :=
    fun listed hsz h => left_none _ fun k hk => ready_some hsz hfw h k hk
  intro fuel
  induction fuel with
  | zero =>
    intro listed σ H σ' H' w G own a hsz hcl hfl hr hat hQ
    have hnil : left (fun k => listed.getD k false) vs ops.size = [] := List.eq_nil_of_length_eq_zero hfl.symm
    refine ⟨?_, ?_⟩
    · cases hrd : Region.ready .any ops listed with
      | nil => rfl
      | cons i l =>
        exfalso
        obtain ⟨o, h1, h2, _⟩ := ready_mem (show i ∈ Region.ready .any ops listed by rw [hrd]; exact List.mem_cons_self ..)
        have hi : i < ops.size := (Array.getElem?_eq_some_iff.1 h1).1
        have hv : vs[i]? = some vs[i] := List.getElem?_eq_getElem (by omega)
        have hli : listed.getD i false = false := by
          simp only [Array.getD_eq_getD_getElem?] at h2 ⊢
          rw [Array.getElem?_eq_getElem (by omega)] at h2 ⊢
          simpa using h2
        obtain ⟨B, hB, _⟩ := left_split (ls := fun k => listed.getD k false) hv hli ops.size hi
        rw [hB] at hnil
        simp at hnil
    · rw [hnil] at hr
      cases hr
      exact hQ a w G own hat (Ext.refl ..)
  | succ fuel ih =>
    intro listed σ H σ' H' w G own a hsz hcl hfl hr hat hQ
    refine ⟨fun h => ?_, fun i hi => ?_⟩
    · rw [done listed hsz h] at hfl; cases hfl
    · obtain ⟨o, h1, h2, h3⟩ := ready_mem hi
      have hio : i < ops.size := (Array.getElem?_eq_some_iff.1 h1).1
      obtain ⟨v, hv, hcv⟩ := hget i o (by rw [Array.getElem?_toList]; exact h1)
      have hli : listed.getD i false = false := by
        simp only [Array.getD_eq_getD_getElem?] at h2 ⊢
        rw [Array.getElem?_eq_getElem (by omega)] at h2 ⊢
        simpa using h2
      obtain ⟨B, hB1, hB2⟩ := left_split (ls := fun k => listed.getD k false) hv hli ops.size hio
      have hset : ∀ k, (listed.setIfInBounds i true).getD k false = if k = i then true else listed.getD k false := by
        intro k
        simp only [Array.getD_eq_getD_getElem?]
        by_cases hk : k = i
        · subst hk; simp [show k < listed.size by omega]
        · simp [Ne.symm hk, hk]
      rw [hB1] at hr hfl
      obtain ⟨m, hm⟩ : ∃ m, (masks ops.toList [])[i]? = some m := by
        have : i < (masks ops.toList []).length := by rw [masks_len, Array.length_toList]; simpa using hio
        exact ⟨_, List.getElem?_eq_getElem this⟩
      have hind : ∀ x ∈ left (fun k => listed.getD k false) vs i, indep x v = true := by
        intro x hx
        obtain ⟨k, hk1, hk2, hk3⟩ := left_mem hx
        have hrow := drawAll_spec hd i v m hv hm
        rw [Nat.zero_add] at hrow
        refine drawRow_spec hrow k x (by rw [List.getElem?_take, if_pos hk1]; exact hk3) ?_
        rw [Nat.zero_add]
        cases hbit : m.testBit k with
        | false => rfl
        | true =>
          have := mask_listed (ops := ops.toList) (ls := fun k => listed.getD k false) (fun k o ho hl => hcl k o (by rw [← Array.getElem?_toList]; exact ho) hl) i o m (by rw [Array.getElem?_toList]; exact h1) hm h3 k hbit
          rw [hk2] at this; cases this
      obtain ⟨σ1, H1, hstep, hrest⟩ := VRun.front hr hind
      refine wpOp_sound h1 hcv hat hstep fun a1 w1 G1 own1 hat1 hx1 => ?_
      refine ih (listed.setIfInBounds i true) (by simp [hsz]) ?_ ?_ ?_ hat1 fun a2 w2 G2 own2 hat2 hx2 => hQ a2 w2 G2 own2 hat2 (hx1.trans hx2)
      · intro k o' ho' hk e he
        rw [hset] at hk ⊢
        split
        · rfl
        · by_cases hki : k = i
          · subst hki
            rw [h1] at ho'; cases ho'
            exact h3 e he
          · rw [if_neg hki] at hk
            exact hcl k o' ho' hk e he
      · have : (fun k => (listed.setIfInBounds i true).getD k false) = fun k => if k = i then true else listed.getD k false := funext hset
        rw [this, hB2]
        simp only [List.length_append, List.length_cons] at hfl ⊢; omega
      · have : (fun k => (listed.setIfInBounds i true).getD k false) = fun k => if k = i then true else listed.getD k false := funext hset
        rw [this, hB2]; exact hrest

end
end Go.Proofs.Ytglemgdlkddjhaa.Vm

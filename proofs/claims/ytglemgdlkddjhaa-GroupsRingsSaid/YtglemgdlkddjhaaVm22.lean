/-
The value machine, part 22: a function of the model does what the machine's function does.
-/
import Derived.Test.YtglemgdlkddjhaaVm21
namespace Go.Proofs.Ytglemgdlkddjhaa.Vm
open Go

mutual
theorem idsV_mono {k m : Nat} (h : k ≤ m) : ∀ v : V, idsV k v = true → idsV m v = true
  | .ptr _ _ _, e => by simp only [idsV, decide_eq_true_eq] at e ⊢; omega
  | .hsl _ _ _ _ _, e => by simp only [idsV, decide_eq_true_eq] at e ⊢; omega
  | .map _, e => by simp only [idsV, decide_eq_true_eq] at e ⊢; omega
  | .fn _ cs, e => by simp only [idsV] at e ⊢; exact idsL_mono h cs e
  | .agg cs, e => by simp only [idsV] at e ⊢; exact idsL_mono h cs e
  | .tup cs, e => by simp only [idsV] at e ⊢; exact idsL_mono h cs e
  | .u, _ => rfl
  | .int _ _, _ => rfl
  | .bool _, _ => rfl
  | .str _, _ => rfl
  | .nilp, _ => rfl
  | .cptr _, _ => rfl
  | .sl _ _ _, _ => rfl
  | .fr _ _, _ => rfl
  | .nilh _, _ => rfl
  | .nilmap, _ => rfl
  | .nilfn, _ => rfl
theorem idsL_mono {k m : Nat} (h : k ≤ m) : ∀ vs : List V, idsL k vs = true → idsL m vs = true
  | [], _ => rfl
  | v :: vs, e => by
    simp only [idsL, Bool.and_eq_true] at e ⊢
    exact ⟨idsV_mono h v e.1, idsL_mono h vs e.2⟩
end

inductive VRes where
  | tmp (t : Nat)
  | cell (t n : Nat) (agg : Bool)
  deriving Inhabited

structure VFunc where
  n : Nat
  body : VCode
  results : List VRes
  deriving Inhabited

def chkRes (P : Program) : ResultVar → VRes → Bool
  | .tmp t, .tmp t' => t == t'
  | .cell a t, .cell a' n agg => a == a' && loadOk P t n agg
  | _, _ => false
def chkRess (P : Program) : List ResultVar → List VRes → Bool
  | [], [] => true
  | x :: xs, y :: ys => chkRes P x y && chkRess P xs ys
  | _, _ => false
def tmpOf : VRes → Option Nat
  | .tmp t => some t
  | .cell .. => none

def chkFn (P : Program) (f : Nat) (vf : VFunc) : Bool := match P.funcs[f]? with
  | some fn => (match fn.body with | some c => chkCode P vf.n c vf.body | none => false) && fn.ntmps == vf.n && chkRess P fn.results.toList vf.results && (vf.results.filterMap tmpOf).Nodup && fn.name != "runtime.NumGoroutine"
  | none => false

def res1 (H : Heap) (σ : Env) : VRes → Option V
  | .tmp t => some (σ t)
  | .cell t n agg => match σ t with
    | .ptr id ver off => (getCells H id ver).bind fun cs => (cut cs off n).bind fun l => mk agg (l.map strip0)
    | _ => none
def resL (H : Heap) (σ : Env) : List VRes → Option (List V)
  | [] => some []
  | r :: rs => (res1 H σ r).bind fun v => (resL H σ rs).map (v :: ·)
def pack : List V → V
  | [v] => v
  | vs => .tup vs
/-- What a function answers; m: from that object on all is forgotten. -/
def resV (m : Nat) (H : Heap) (σ : Env) : List VRes → Option V
  | [.cell t n agg] => match σ t with
    | .ptr id ver off => (getCells H id ver).bind fun cs => (cut cs off n).bind fun l => mk agg (if m ≤ id then l else l.map strip0)
    | _ => none
  | rs => (resL H σ rs).map pack

section
variable {P : Program} {w : World} {G : Gh} {own : Nat → Option Place} {H : Heap} {σ : Env} {n : Nat} {a : Go.Act}

theorem res_cell (hat : At w G own σ H n a) {t' : TypeId} {t k id ver off : Nat} {agg : Bool} (hl : loadOk P t' k agg = true) (hσ : σ t = .ptr id ver off) {cs l : List V} (hg : getCells H id ver = some cs) (hc : cut cs off k = some l) :
    ∃ c, (do loadVar t' (← asAddr (a.tmps.getD t undef)) : Sem Value).run P w = .ok c w ∧ (∀ v, mk agg (l.map strip0) = some v → RepL w G [v] [c] []) ∧
      ∀ v, mk agg l = some v → ∃ bl, RepL w G [v] [c] bl ∧ bl.Nodup ∧ ∀ b ∈ bl, own b = some (.cell id) := by
  obtain ⟨d, h1, h2, h3, h4⟩ := loadOk_eq hl
  obtain ⟨bl, r, _, _⟩ := hat.slots t
  rw [hσ] at r
  obtain ⟨b, ver', n', bb, cs', hcs, hloc, hv, hbb, _⟩ := r.ptr_inv
  have hc0 := (List.cons.inj hcs).1
  obtain ⟨hve, c, e, blo, _, k2, k3, k4, k5, k6, k7, k8⟩ := obj_live hat.ok hg hloc hv
  obtain rfl := hbb hve
  obtain ⟨a1, a2, a3, hbl, _, r2, _, hl2, hcell⟩ := obj_part k6 k5 hc
  have hrun := run_loadVar (P := P) (w := w) h1 h2 ⟨bb, off, none⟩ _ hl2 (cell_of_heap k3 hcell) h4
  subst h3
  refine ⟨_, by rw [hc0]; simp [asAddr, hrun], fun v hm => mk_rep r2.strips0 hm, fun v hm => ⟨a2, mk_rep r2 hm, ?_, fun b hb => ?_⟩⟩
  · rw [hbl] at k7; exact (List.nodup_append.1 (List.nodup_append.1 k7).2.1).1
  · exact k8 b (by rw [hbl]; exact List.mem_append_right _ (List.mem_append_left _ hb))

def run1 (a : Go.Act) : ResultVar → Sem Value
  | .tmp t => pure (a.tmps.getD t undef)
  | .cell x t => do loadVar t (← asAddr (a.tmps.getD x undef))

theorem res_list (hat : At w G own σ H n a) : ∀ {xs : List ResultVar} {rs : List VRes} {vs : List V}, chkRess P xs rs = true → (rs.filterMap tmpOf).Nodup → resL H σ rs = some vs →
    ∃ cs bl, (xs.mapM (run1 a)).run P w = .ok cs w ∧ RepL w G vs cs bl ∧ bl.Nodup ∧ ∀ b ∈ bl, ∃ i, own b = some (.slot i) ∧ i ∈ rs.filterMap tmpOf
  | [], [], vs, _, _, h => by
    cases h
    exact ⟨[], [], by simp, .nil, List.nodup_nil, fun _ h => by cases h⟩
  | [], _ :: _, _, h, _, _ => by cases h
  | _ :: _, [], _, h, _, _ => by cases h
  | x :: xs, r :: rs, vs, hc, hn, h => by
    simp only [chkRess, Bool.and_eq_true] at hc
    obtain ⟨v, h1, h⟩ := Option.bind_eq_some_iff.1 h
    obtain ⟨vs', h2, h⟩ := Option.map_eq_some_iff.1 h
    subst h
    cases r with
    | tmp t =>
      cases x with
      | cell _ _ => cases hc.1
      | tmp t' =>
        have : t' = t := by simpa [chkRes] using hc.1
        subst this
        rw [List.filterMap_cons_some (show tmpOf (.tmp t') = some t' from rfl)] at hn ⊢
        obtain ⟨hn1, hn2⟩ := List.nodup_cons.1 hn
        obtain ⟨cs, bl, k1, k2, k3, k4⟩ := res_list hat hc.2 hn2 h2
        obtain ⟨b1, r1, r2, r3⟩ := hat.slots t'
        cases h1
        refine ⟨a.tmps.getD t' undef :: cs, b1 ++ bl, by simp only [List.mapM_cons, Sem.run_bind, run1, Sem.run_pure, Result.andThen_ok, k1], RepL.cons r1 k2, List.nodup_append.2 ⟨r2, k3, ?_⟩, ?_⟩
        · intro x hx y hy e; subst e
          obtain ⟨i, j1, j2⟩ := k4 x hy
          rw [r3 x hx] at j1; cases j1
          exact hn1 j2
        · intro b hb
          rcases List.mem_append.1 hb with hb | hb
          · exact ⟨t', r3 b hb, List.mem_cons_self ..⟩
          · obtain ⟨i, j1, j2⟩ := k4 b hb
            exact ⟨i, j1, List.mem_cons_of_mem _ j2⟩
    | cell t k agg =>
      cases x with
      | tmp _ => cases hc.1
      | cell x t' =>
        simp only [chkRes, Bool.and_eq_true, beq_iff_eq] at hc
        obtain ⟨⟨rfl, hl⟩, hc⟩ := hc
        rw [List.filterMap_cons_none (show tmpOf (.cell x k agg) = none from rfl)] at hn ⊢
        obtain ⟨cs, bl, k1, k2, k3, k4⟩ := res_list hat hc hn h2
        simp only [res1] at h1
        split at h1
        · rename_i id ver off hσ
          obtain ⟨cs0, hg, h1⟩ := Option.bind_eq_some_iff.1 h1
          obtain ⟨l, hcut, h1⟩ := Option.bind_eq_some_iff.1 h1
          obtain ⟨c, e1, e2, _⟩ := res_cell (P := P) hat hl hσ hg hcut
          refine ⟨c :: cs, [] ++ bl, ?_, RepL.cons (e2 v h1) k2, by simpa using k3, fun b hb => k4 b (by simpa using hb)⟩
          have : (run1 a (.cell x t')).run P w = .ok c w := e1
          simp only [List.mapM_cons, Sem.run_bind, this, Result.andThen_ok, k1, Sem.run_pure]
        · cases h1

theorem results_map (fn : Func) (g : ResultVar → Sem Value) (hg : ∀ x, g x = run1 a x) {cs : List Value} (h : (fn.results.toList.mapM (run1 a)).run P w = .ok cs w) : (Array.mapM g fn.results).run P w = .ok cs.toArray w := by
  rw [funext hg, Array.mapM_eq_mapM_toList, Sem.run_map, h]; rfl
def packC : List Value → Value
  | [c] => c
  | cs => .tuple cs.toArray
theorem results_run {fn : Func} {cs : List Value} (h : (fn.results.toList.mapM (run1 a)).run P w = .ok cs w) : (results fn a.tmps).run P w = .ok (packC cs) w := by
  unfold results
  rw [Sem.run_bind, results_map (a := a) (P := P) (w := w) fn _ (by intro x; cases x <;> rfl) h]
  simp only [Result.andThen_ok, Sem.run_pure]
  match cs with
  | [] => rfl
  | [c] => rfl
  | _ :: _ :: _ => rfl

/-- A function's answer. -/
theorem res_sound (hat : At w G own σ H n a) {fn : Func} {rs : List VRes} (hc : chkRess P fn.results.toList rs = true) (hn : (rs.filterMap tmpOf).Nodup) {m : Nat} {v : V} (h : resV m H σ rs = some v) :
    ∃ c bl, (results fn a.tmps).run P w = .ok c w ∧ RepL w G [v] [c] bl ∧ bl.Nodup ∧ ∀ b ∈ bl, (∃ i, own b = some (.slot i)) ∨ ∃ i, m ≤ i ∧ own b = some (.cell i) := by
  have general : ∀ {vs : List V}, resL H σ rs = some vs → v = pack vs → ∃ c bl, (results fn a.tmps).run P w = .ok c w ∧ RepL w G [v] [c] bl ∧ bl.Nodup ∧ ∀ b ∈ bl, (∃ i, own b = some (.slot i)) ∨ ∃ i, m ≤ i ∧ own b = some (.cell i) := by
    intro vs h1 h2
    obtain ⟨cs, bl, k1, k2, k3, k4⟩ := res_list hat hc hn h1
    refine ⟨_, bl, results_run k1, ?_, k3, fun b hb => .inl ⟨(k4 b hb).choose, (k4 b hb).choose_spec.1⟩⟩
    subst h2
    have hlen := k2.length
    match vs, cs, hlen with
    | [], [], _ => 
      have := k2.nil_inv.2
      subst this
      exact .tup .nil .nil
    | [v], [c], _ => exact k2
    | v1 :: v2 :: vs, c1 :: c2 :: cs, _ => simpa [pack, packC] using RepL.tup k2 (RepL.nil (w := w) (G := G))
  unfold resV at h
  split at h
  · rename_i t k agg
    split at h
    · rename_i id ver off hσ
      obtain ⟨cs0, hg, h⟩ := Option.bind_eq_some_iff.1 h
      obtain ⟨l, hcut, h⟩ := Option.bind_eq_some_iff.1 h
      match hfr : fn.results.toList, hc with
      | [.cell x t'], hc =>
        simp only [chkRess, chkRes, Bool.and_eq_true, beq_iff_eq, Bool.and_true] at hc
        obtain ⟨rfl, hl⟩ := hc
        obtain ⟨c, e1, e2, e3⟩ := res_cell (P := P) hat hl hσ hg hcut
        have hrun : (fn.results.toList.mapM (run1 a)).run P w = .ok [c] w := by
          rw [hfr]
          have : (run1 a (.cell x t')).run P w = .ok c w := e1
          simp [List.mapM_cons, this]
        split at h
        · rename_i hm
          obtain ⟨bl, q1, q2, q3⟩ := e3 v h
          exact ⟨c, bl, results_run hrun, q1, q2, fun b hb => .inr ⟨id, hm, q3 b hb⟩⟩
        · exact ⟨c, [], results_run hrun, e2 v h, List.nodup_nil, fun _ h => by cases h⟩
      | [.tmp _], hc => simp [chkRess, chkRes] at hc
      | [], hc => cases hc
      | _ :: _ :: _, hc => simp [chkRess] at hc
    · cases h
  · obtain ⟨vs, h1, h2⟩ := Option.map_eq_some_iff.1 h
    exact general h1 h2.symm

/-- The slots that a function begins with. -/
def env0 (args : List V) : Env := fun i => (args[i]?).getD (.tup [])

/-- The blocks of each of a list of values. -/
theorem RepL.parts : ∀ {vs : List V} {cs : List Value} {bl : List Nat}, RepL w G vs cs bl → bl.Nodup → ∃ f : Nat → Option Nat, (∀ b j, f b = some j → b ∈ bl) ∧
      ∀ j v, vs[j]? = some v → ∃ c b1, cs[j]? = some c ∧ RepL w G [v] [c] b1 ∧ b1.Nodup ∧ ∀ b ∈ b1, f b = some j
  | [], cs, bl, h, _ => ⟨fun _ => none, (fun _ _ h => by cases h), fun j v h => by simp at h⟩
  | v :: vs, cs, bl, h, hn => by
    obtain ⟨c, cs, b1, b2, rfl, rfl, h1, h2⟩ := h.cons_inv
    obtain ⟨n1, n2, n3⟩ := List.nodup_append.1 hn
    obtain ⟨f, k1, k2⟩ := RepL.parts h2 n2
    refine ⟨fun b => if b ∈ b1 then some 0 else (f b).map (· + 1), ?_, ?_⟩
    · intro b j hb
      simp only at hb
      split at hb
      · rename_i hm; exact List.mem_append_left _ hm
      · obtain ⟨j', e, _⟩ := Option.map_eq_some_iff.1 hb
        exact List.mem_append_right _ (k1 b j' e)
    · intro j x hu
      match j with
      | 0 =>
        simp at hu; subst hu
        exact ⟨c, b1, rfl, h1, n1, fun b hb => by simp [hb]⟩
      | j + 1 =>
        obtain ⟨c', b', e1, e2, e3, e4⟩ := k2 j x (by simpa using hu)
        refine ⟨c', b', by simpa using e1, e2, e3, fun b hb => ?_⟩
        have hb2 := k1 b j (e4 b hb)
        have : b ∉ b1 := fun h => n3 b h b hb2 rfl
        simp [this, e4 b hb]

/-- A FUNCTION: what the machine's code makes of the arguments, it does. -/
theorem T_of (hmix : P.follows .mixedOrders = true) {f : Nat} {vf : VFunc} (hc : chkFn P f vf = true) {args : List V} (hl : args.length ≤ vf.n) {x : X} {σ' : Env} {H1 : Heap} (hx : VExec P vf.body (env0 args) H x σ' H1) (hnx : ∀ id, x ≠ .exit id)
    {m : Nat} (hm1 : H.length ≤ m) (hm2 : m ≤ H1.length) {r r' : V} (hr : resV m H1 σ' vf.results = some r) (hf : fixV m H1 8 r = some r')
    (hk : ∀ i ob, i < m → H1[i]? = some ob → H[i]? = some ob ∨ idsO m ob = true) : T P f args H r' (H1.take m) := by
  unfold chkFn at hc
  split at hc
  · rename_i fn hfn
    simp only [Bool.and_eq_true, beq_iff_eq, decide_eq_true_eq, bne_iff_ne] at hc
    obtain ⟨⟨⟨⟨hbody, hnt⟩, hres⟩, hnd⟩, hname⟩ := hc
    cases hb : fn.body with
    | none => rw [hb] at hbody; cases hbody
    | some c =>
      rw [hb] at hbody
      refine ⟨⟨fn, hfn, by rw [hb]; rfl, by simpa using hname⟩, ?_⟩
      intro w G own cs bl hok hrep hnod harg
      obtain ⟨fo, fo1, fo2⟩ := hrep.parts hnod
      let own1 : Nat → Option Place := fun b => match fo b with
        | some j => some (.slot j)
        | none => match own b with
          | some .frame => some .frame
          | some (.obj i) => some (.obj i)
          | some (.cell i) => some (.cell i)
          | _ => none
      have hnone : ∀ b, own b ≠ some .arg → fo b = none := by
        intro b hb
        cases h : fo b with
        | none => rfl
        | some j => exact absurd (harg b (fo1 b j h)) hb
      have hok1 : Ok w G own1 H := by
        refine hok.relabel (fun b i hb => ?_) fun b p hp => ?_
        · have : fo b = none := hnone b (by rcases hb with hb | hb <;> rw [hb] <;> simp)
          simp only [own1, this]; rcases hb with hb | hb <;> rw [hb]
        · simp only [own1] at hp
          split at hp
          · rename_i j hj; exact ⟨_, harg b (fo1 b j hj)⟩
          · split at hp
            · exact ⟨_, by assumption⟩
            · exact ⟨_, by assumption⟩
            · exact ⟨_, by assumption⟩
            · cases hp
      have hlen : cs.size = args.length := by have := hrep.length; rw [this]; exact Array.length_toList.symm
      have hat : At w G own1 (env0 args) H vf.n { tmps := cs ++ Array.replicate (fn.ntmps - cs.size) undef, defers := [] } := by
        refine ⟨hok1, fun i => ?_, ?_, rfl⟩
        · cases hi : args[i]? with
          | none =>
            have hge : args.length ≤ i := by
              rcases Nat.lt_or_ge i args.length with h | h
              · rw [List.getElem?_eq_getElem h] at hi; cases hi
              · exact h
            refine ⟨[], ?_, List.nodup_nil, fun _ h => by cases h⟩
            have : (cs ++ Array.replicate (fn.ntmps - cs.size) undef).getD i undef = undef := by
              rw [Array.getD_eq_getD_getElem?, Array.getElem?_append_right (by omega), Array.getElem?_replicate]
              split <;> rfl
            simp only [env0, hi, Option.getD_none]
            rw [this]
            exact .tup .nil .nil
          | some v =>
            obtain ⟨c', b1, e1, e2, e3, e4⟩ := fo2 i v hi
            refine ⟨b1, ?_, e3, fun b hb => by simp only [own1, e4 b hb]⟩
            have hlt : i < cs.size := by
              rw [hlen]; exact (List.getElem?_eq_some_iff.1 hi).1
            have : (cs ++ Array.replicate (fn.ntmps - cs.size) undef).getD i undef = c' := by
              rw [Array.getD_eq_getD_getElem?, Array.getElem?_append_left hlt, ← Array.getElem?_toList, e1]; rfl
            simp only [env0, hi, Option.getD_some]
            rw [this]; exact e2
        · simp only [Array.size_append, Array.size_replicate]; omega
      refine calls_of_wp hfn hb (Code.wp_mono ?_ ((exec_sound hmix hx c hbody).1 w G own1 _ hat))
      rintro e a1 w1 ⟨rfl, G1, own2, hat1, hext⟩
      obtain ⟨cr, br, q1, q2, q3, q4⟩ := res_sound (P := P) hat1 hres hnd hr
      have hno : NoObj own2 br := by
        intro b hb i hi
        rcases q4 b hb with ⟨j, h⟩ | ⟨j, _, h⟩ <;> rw [h] at hi <;> cases hi
      obtain ⟨br', p1, p2, p3⟩ := fix_one hat1.ok m 8 r cr br r' q2 hf hno q3
      let own3 : Nat → Option Place := fun b => if b ∈ br' then some .res else match own2 b with
        | some .frame => some .frame
        | some (.obj i) => if i < m then some (.obj i) else none
        | some (.cell i) => if i < m then some (.cell i) else none
        | _ => none
      have hids : ∀ i ob, i < m → H1[i]? = some ob → idsO m ob = true := by
        intro i ob hi hob
        rcases hk i ob hi hob with h | h
        · have ho := hok.obj i ob h
          have mono : ∀ (l : List V) k, k ≤ m → idsL k l = true → idsL m l = true := fun l k hk => idsL_mono hk l
          match ob, ho with
          | .dead, _ => rfl
          | .cells ver vs, ho =>
            obtain ⟨b, c, e, bl, _, _, _, _, _, h6, _⟩ := ho
            exact mono _ _ (by rw [← hok.len]; exact hm1) h6.ids
          | .map es, ho =>
            obtain ⟨b, c, e, _, _, _, _, h6⟩ := ho
            exact mono _ _ (by rw [← hok.len]; exact hm1) h6.ids
        · exact h
      have hcut : Ok w1 (cutG w1 G1 own2 m) own3 (H1.take m) := by
        refine hat1.ok.cut hm2 hids (fun b i hi hb => ?_) fun b p hp => ?_
        · have hnb : b ∉ br' := by
            intro hb'
            rcases q4 b (p3 b hb') with ⟨j, h⟩ | ⟨j, hj, h⟩
            · rcases hb with hb | hb <;> rw [h] at hb <;> cases hb
            · rcases hb with hb | hb <;> rw [h] at hb <;> cases hb; omega
          simp only [own3, if_neg hnb]
          rcases hb with hb | hb <;> rw [hb] <;> simp [hi]
        · simp only [own3] at hp
          split at hp
          · rename_i hb'
            rcases q4 b (p3 b hb') with ⟨j, h⟩ | ⟨j, _, h⟩ <;> exact ⟨_, h⟩
          · cases ho : own2 b with
            | none => rw [ho] at hp; cases hp
            | some q => exact ⟨q, rfl⟩
      have hpost : Post w G own r' (H1.take m) cr w1 := by
        refine ⟨_, own3, br', hcut, p1, p2, fun b hb => by simp only [own3, if_pos hb], ⟨hext.size, fun b o v hv => froze_mono hat1.ok m b o v (hext.imm b o v hv), ?_, ?_, hext.tape, hext.os, hext.out⟩⟩
        · intro i b v k hi
          obtain ⟨b', v', k', e1, e2, e3⟩ := hext.loc i b v k hi
          have : i < m := by have := lt_loc hi; rw [← hok.len] at this; omega
          exact ⟨b', v', k', by simp only [cutG]; rw [take_get this]; exact e1, e2, e3⟩
        · intro b hb
          have h1 : own1 b = some .frame := by
            have : fo b = none := hnone b (by rw [hb]; simp)
            simp only [own1, this, hb]
          obtain ⟨k1, k2, k3⟩ := hext.fixed b h1
          refine ⟨k1, fun o => ?_, ?_⟩
          · rw [← k2 o]; exact froze_same (fun i hi => by rw [k3] at hi; cases hi) o
          · have hnb : b ∉ br' := by
              intro hb'
              rcases q4 b (p3 b hb') with ⟨j, h⟩ | ⟨j, _, h⟩ <;> rw [k3] at h <;> cases h
            simp only [own3, if_neg hnb, k3]
      cases x with
      | normal => exact ⟨hat1.defers, cr, q1, cr, rfl, hpost⟩
      | ret => exact ⟨hat1.defers, cr, q1, cr, rfl, hpost⟩
      | exit id => exact absurd rfl (hnx id)
  · cases hc
end
end Go.Proofs.Ytglemgdlkddjhaa.Vm

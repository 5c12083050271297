/- The framework M, sixteenth text: a region that draws its order: all its orders; the look that tells a region fit. Conditions: the look. -/
import Derived.Test.YtnjmdkecpadehaaMDraw3
set_option linter.all false
set_option linter.unusedSimpArgs false
namespace Go.Proofs.Ytnjmdkecpadehaa.M

section
variable {P : Program} {call : CallFn} {nt : Nat} {ops : Array Oper} {ds : List D} {S : Nat → DS} {B : Nat → Nat → Prop}

def Listed (listed : Array Bool) (j : Nat) : Prop := listed.getD j false = true
theorem listed_set {listed : Array Bool} {i : Nat} (hi : i < listed.size) (j : Nat) : Listed (listed.setIfInBounds i true) j ↔ j = i ∨ Listed listed j := by
  unfold Listed
  by_cases h : i = j
  · subst h; simp [hi]
  · rw [getD_set_ne false h]
    constructor
    · exact .inr
    · rintro (e | e)
      · exact absurd e.symm h
      · exact e
theorem unlisted {listed : Array Bool} {j : Nat} (h : j < listed.size) : listed.getD j true = false ↔ ¬ Listed listed j := by
  unfold Listed
  simp [h]
theorem count_set {listed : Array Bool} {i : Nat} (hi : i < listed.size) (hn : ¬ Listed listed i) : (listed.setIfInBounds i true).countP (fun b => !b) + 1 = listed.countP (fun b => !b) := by
  have h1 : listed[i] = false := by
    unfold Listed at hn
    simpa [hi] using hn
  have h2 : 0 < listed.countP (fun b => !b) := by
    rw [Array.countP_pos_iff]
    exact ⟨listed[i], Array.getElem_mem hi, by simp [h1]⟩
  rw [Array.setIfInBounds, dif_pos hi, Array.countP_set hi]
  simp [h1]
  omega

theorem Stage.congr {φ0 : Phi} {w0 : World} {df : List Deferred} {top : Nat} {L L' : Nat → Prop} {a : Act} {w : World} {c : Nat} {ψ : Phi} (h : Stage P call nt ds S φ0 w0 df top L a w c ψ) (e : ∀ j, L j ↔ L' j) : Stage P call nt ds S φ0 w0 df top L' a w c ψ := by
  have : L = L' := funext fun j => propext (e j)
  rwa [this] at h

theorem Reg.all (R : Reg P call nt ops ds S B) {listed : Array Bool} (hs : listed.size = ops.size) (hr : Region.ready .any ops listed = []) : ∀ i, i < ds.length → Listed listed i := by
  intro i
  induction i using Nat.strongRecOn with
  | _ i ih =>
    intro hi
    have hio : i < ops.size := by rw [← R.len]; exact hi
    apply Classical.byContradiction
    intro hn
    have : i ∈ Region.ready .any ops listed := by
      rw [mem_ready]
      refine ⟨(unlisted (by omega)).2 hn, ops[i], Array.getElem?_eq_getElem hio, fun e he hb => ?_⟩
      have := R.low i _ (Array.getElem?_eq_getElem hio) e he hb
      exact ih e.on this (by omega)
    rw [hr] at this
    cases this

theorem Reg.any (R : Reg P call nt ops ds S B) {φ0 : Phi} {w0 : World} {df : List Deferred} {Q : Exit → Act → World → Prop}
    (hQ : ∀ a' w', (∃ φ', EnvR φ' (S ds.length).e a'.tmps ∧ a'.tmps.size = nt ∧ a'.defers = df ∧ Rel φ' (pushAll (S ds.length).H (S ds.length).pend) w' ∧ Step φ0 (S 0).H w0 φ' (pushAll (S ds.length).H (S ds.length).pend) w') → Q .normal a' w') :
    ∀ (fuel : Nat) (listed : Array Bool) (a : Act) (w : World) (c : Nat) (ψ : Phi), listed.size = ops.size → listed.countP (fun b => !b) ≤ fuel →
      (∀ (k : Nat) o, ops[k]? = some o → Listed listed k → ∀ e ∈ o.after, Region.binds .any e = true → Listed listed e.on) →
      Stage P call nt ds S φ0 w0 df (pushAll (S ds.length).H (S ds.length).pend).size (Listed listed) a w c ψ → wpAny P .any ops Q fuel listed a w := by
  intro fuel
  induction fuel with
  | zero =>
    intro listed a w c ψ hs hc hcl h
    have hr : Region.ready .any ops listed = [] := by
      apply List.eq_nil_iff_forall_not_mem.2
      intro i hi
      rw [mem_ready] at hi
      obtain ⟨h1, o, h2, _⟩ := hi
      have hio := (Array.getElem?_eq_some_iff.1 h2).1
      have := count_set (by omega) ((unlisted (by omega)).1 h1)
      omega
    obtain ⟨h1, h2, h3⟩ := h.done R (R.all hs hr)
    exact ⟨hr, hQ a w ⟨ψ, h1, h.nts, h.dfs, h2, h3⟩⟩
  | succ fuel ih =>
    intro listed a w c ψ hs hc hcl h
    refine ⟨fun hr => ?_, fun i hi => ?_⟩
    · obtain ⟨h1, h2, h3⟩ := h.done R (R.all hs hr)
      exact hQ a w ⟨ψ, h1, h.nts, h.dfs, h2, h3⟩
    · rw [mem_ready] at hi
      obtain ⟨h1, o, h2, h3⟩ := hi
      have hio := (Array.getElem?_eq_some_iff.1 h2).1
      have hil : i < listed.size := by omega
      have hid : i < ds.length := by rw [R.len]; exact hio
      have hn := (unlisted hil).1 h1
      have closed : ∀ (k : Nat) o, ops[k]? = some o → (k = i ∨ Listed listed k) → ∀ e ∈ o.after, Region.binds .any e = true → (e.on = i ∨ Listed listed e.on) := by
        rintro k o' hk (rfl | hL) e he hb
        · rw [h2] at hk
          cases hk
          exact .inr (h3 e he hb)
        · exact .inr (hcl k o' hk hL e he hb)
      have ready : Ready ds B (Listed listed) i ds[i] := by
        refine ⟨List.getElem?_eq_getElem hid, hn, fun j hj hb => ?_, fun j hj hL hb => hn (R.cl _ hcl j i hj hL hb)⟩
        exact (R.cl _ closed i j hid (.inl rfl) hb).resolve_left (by omega)
      refine h.step R (by rw [pushAll_size]; exact Nat.le_refl _) ready fun a' w' c' ψ' h' => ?_
      refine ih _ a' w' c' ψ' (by simpa using hs) (by have := count_set hil hn; omega) (fun k o' hk hL e he hb => ?_) (h'.congr fun j => (listed_set hil j).symm)
      exact (listed_set hil _).2 (closed k o' hk ((listed_set hil k).1 hL) e he hb)
end

/-! ### The look -/
def edgeMask (ms : List Nat) : List Edge → Nat
  | [] => 0
  | e :: r => bif Region.binds .any e then Nat.lor (Nat.lor (Nat.pow 2 e.on) (ms.getD e.on 0)) (edgeMask ms r) else edgeMask ms r
def edgesLow (n : Nat) : List Edge → Bool
  | [] => true
  | e :: r => (!Region.binds .any e || Nat.blt e.on n) && edgesLow n r
def closeAll : List Oper → List Nat → Nat → Option (List Nat)
  | [], ms, _ => some ms
  | o :: r, ms, n => bif edgesLow n o.after.toList then closeAll r (ms ++ [edgeMask ms o.after.toList]) (n + 1) else none
def memN (t : Nat) : List Nat → Bool
  | [] => false
  | k :: r => Nat.beq k t || memN t r
def memO : Option Nat → List Nat → Bool
  | none, _ => false
  | some t, l => memN t l
def needC (i : Nat) (chk : List Nat) : Cls → Cls → Bool
  | .act, .act => true
  | .alloc, .act => true
  | .load, .act => !memN i chk
  | .act, .load => !memN i chk
  | _, _ => false
def need (i : Nat) (di dj : D) : Bool := needC i dj.chk di.o.i.cls dj.o.i.cls || (memO di.o.d dj.o.names || memO dj.o.d di.o.names)
def pairsOk (m : Nat) (dj : D) : Nat → List D → Bool
  | _, [] => true
  | i, di :: r => (Nat.testBit m i || !need i di dj) && pairsOk m dj (i + 1) r
def allPairs (ms : List Nat) (all : List D) : Nat → List D → Bool
  | _, [] => true
  | j, dj :: r => pairsOk (ms.getD j 0) dj 0 (all.take j) && allPairs ms all (j + 1) r
def okDs (P : Program) (nt : Nat) (ops : Array Oper) : List Oper → List D → Bool
  | [], [] => true
  | o :: r, m :: s => okO1 P nt ops o m.o && okDs P nt ops r s
  | _, _ => false
def okDraw (P : Program) (nt : Nat) (ops : Array Oper) (ds : List D) : Bool :=
  okDs P nt ops ops.toList ds && (match closeAll ops.toList [] 0 with
    | some ms => allPairs ms ds 0 ds
    | none => false)

theorem memN_spec {t : Nat} : ∀ {l : List Nat}, memN t l = true ↔ t ∈ l
  | [] => by simp [memN]
  | k :: r => by
    simp only [memN, beq_eq, Bool.or_eq_true, decide_eq_true_eq, memN_spec (l := r), List.mem_cons]
    exact ⟨fun h => h.imp Eq.symm id, fun h => h.imp Eq.symm id⟩
theorem okDs_spec {P : Program} {nt : Nat} {ops : Array Oper} : ∀ {l : List Oper} {ds : List D}, okDs P nt ops l ds = true → ds.length = l.length ∧ ∀ (k : Nat) d o, ds[k]? = some d → l[k]? = some o → okO1 P nt ops o d.o = true
  | [], [], _ => ⟨rfl, fun k d o h => by simp at h⟩
  | o :: r, m :: s, h => by
    obtain ⟨h1, h2⟩ := ok_and h
    obtain ⟨h3, h4⟩ := okDs_spec h2
    refine ⟨by simp [h3], fun k d o' hd ho => ?_⟩
    cases k with
    | zero => simp at hd ho; subst hd ho; exact h1
    | succ k => exact h4 k d o' (by simpa using hd) (by simpa using ho)
  | [], _ :: _, h => by simp [okDs] at h
  | _ :: _, [], h => by simp [okDs] at h
theorem edgesLow_spec {n : Nat} : ∀ {l : List Edge}, edgesLow n l = true → ∀ e ∈ l, Region.binds .any e = true → e.on < n
  | e :: r, h, e', he, hb => by
    obtain ⟨h1, h2⟩ := ok_and h
    rcases List.mem_cons.1 he with rfl | he
    · rw [hb] at h1
      simpa using h1
    · exact edgesLow_spec h2 e' he hb
theorem edgeMask_spec {ms : List Nat} : ∀ {l : List Edge} {i : Nat}, (edgeMask ms l).testBit i = true → ∃ e ∈ l, Region.binds .any e = true ∧ (e.on = i ∨ (ms.getD e.on 0).testBit i = true)
  | [], i, h => by simp [edgeMask] at h
  | e :: r, i, h => by
    unfold edgeMask at h
    rw [cond_eq_ite] at h
    split at h
    · rename_i hb
      have h : (((2 ^ e.on) ||| ms.getD e.on 0) ||| edgeMask ms r).testBit i = true := h
      rw [Nat.testBit_or, Nat.testBit_or] at h
      simp only [Bool.or_eq_true] at h
      rcases h with (h | h) | h
      · rw [Nat.testBit_two_pow] at h
        exact ⟨e, by simp, hb, .inl (by simpa using h)⟩
      · exact ⟨e, by simp, hb, .inr h⟩
      · obtain ⟨e', h1, h2⟩ := edgeMask_spec h
        exact ⟨e', by simp [h1], h2⟩
    · obtain ⟨e', h1, h2⟩ := edgeMask_spec h
      exact ⟨e', by simp [h1], h2⟩
theorem closeAll_spec : ∀ {l : List Oper} {ms ms' : List Nat} {n : Nat}, ms.length = n → closeAll l ms n = some ms' →
    ms'.length = n + l.length ∧ (∀ i, i < n → ms'.getD i 0 = ms.getD i 0) ∧ ∀ (k : Nat) o, l[k]? = some o → edgesLow (n + k) o.after.toList = true ∧ ms'.getD (n + k) 0 = edgeMask ms' o.after.toList
  | [], ms, ms', n, hn, h => by
    cases h
    exact ⟨by simpa using hn, fun _ _ => rfl, fun k o ho => by simp at ho⟩
  | o :: r, ms, ms', n, hn, h => by
    unfold closeAll at h
    rw [cond_eq_ite] at h
    split at h
    · rename_i hl
      obtain ⟨h1, h2, h3⟩ := closeAll_spec (by simp [hn]) h
      have pre : ∀ i, i < n → ms'.getD i 0 = ms.getD i 0 := fun i hi => by
        rw [h2 i (by omega)]
        simp [List.getElem?_append_left (show i < ms.length by omega)]
      have same : ∀ l : List Edge, edgesLow n l = true → edgeMask ms' l = edgeMask ms l := by
        intro l
        induction l with
        | nil => intro _; rfl
        | cons e l ih =>
          intro hl
          obtain ⟨g1, g2⟩ := ok_and hl
          unfold edgeMask
          cases hb : Region.binds .any e with
          | false => simp only [cond_false]; exact ih g2
          | true =>
            rw [hb] at g1
            have := Nat.le_of_ble_eq_true (by simpa using g1 : Nat.blt e.on n = true)
            simp only [cond_true]
            rw [ih g2, pre e.on this]
      refine ⟨by simp at h1 ⊢; omega, pre, fun k o' ho => ?_⟩
      cases k with
      | zero =>
        simp at ho
        subst ho
        refine ⟨hl, ?_⟩
        rw [same _ hl, Nat.add_zero, h2 n (by omega)]
        simp [← hn]
      | succ k =>
        have := h3 k o' (by simpa using ho)
        rwa [show n + 1 + k = n + (k + 1) by omega] at this
    · cases h
theorem pairsOk_spec {m : Nat} {dj : D} : ∀ {l : List D} {i0 : Nat}, pairsOk m dj i0 l = true → ∀ (i : Nat) di, l[i]? = some di → need (i0 + i) di dj = true → m.testBit (i0 + i) = true
  | d :: r, i0, h, i, di, hd, hn => by
    obtain ⟨h1, h2⟩ := ok_and h
    cases i with
    | zero =>
      simp at hd
      subst hd
      rw [Nat.add_zero] at hn ⊢
      rw [hn] at h1
      simpa using h1
    | succ i =>
      have := pairsOk_spec h2 i di (by simpa using hd)
      rw [show i0 + 1 + i = i0 + (i + 1) by omega] at this
      exact this hn
  | [], _, _, i, di, hd, _ => by simp at hd
theorem allPairs_spec {ms : List Nat} {all : List D} : ∀ {l : List D} {j0 : Nat}, allPairs ms all j0 l = true → ∀ (j : Nat) dj, l[j]? = some dj → pairsOk (ms.getD (j0 + j) 0) dj 0 (all.take (j0 + j)) = true
  | d :: r, j0, h, j, dj, hd => by
    obtain ⟨h1, h2⟩ := ok_and h
    cases j with
    | zero => simp at hd; subst hd; exact h1
    | succ j =>
      have := allPairs_spec h2 j dj (by simpa using hd)
      rwa [show j0 + 1 + j = j0 + (j + 1) by omega] at this
  | [], _, _, j, dj, hd => by simp at hd

theorem okDraw_reg {P : Program} {call : CallFn} (hcs : CallS P call) (hm : CallMono call) {nt : Nat} {ops : Array Oper} {ds : List D} (h : okDraw P nt ops ds = true)
    {S : Nat → DS} (hp : (S 0).pend = []) (hst : ∀ (k : Nat) d, ds[k]? = some d → d.run call k (S k) = some (S (k + 1))) : ∃ B, Reg P call nt ops ds S B := by
  obtain ⟨h1, h2⟩ := ok_and h
  split at h2
  · rename_i ms hms
    obtain ⟨k1, k2⟩ := okDs_spec h1
    obtain ⟨c1, c2, c3⟩ := closeAll_spec (n := 0) rfl hms
    have pr : ∀ (i j : Nat) di dj, ds[i]? = some di → ds[j]? = some dj → i < j → need i di dj = true → (ms.getD j 0).testBit i = true := by
      intro i j di dj hi hj hij hn
      have := allPairs_spec h2 j dj hj
      rw [Nat.zero_add] at this
      have := pairsOk_spec this i di (by rw [List.getElem?_take_of_lt hij]; exact hi) (by rw [Nat.zero_add]; exact hn)
      rwa [Nat.zero_add] at this
    have low : ∀ (k : Nat) o, ops[k]? = some o → ∀ e ∈ o.after, Region.binds .any e = true → e.on < k := by
      intro k o hk e he hb
      have := (c3 k o (by simpa using hk)).1
      rw [Nat.zero_add] at this
      exact edgesLow_spec this e (by simpa using he) hb
    refine ⟨fun k i => (ms.getD k 0).testBit i = true, hcs, hm, by simpa using k1, fun k d o hd ho => k2 k d o hd (by simpa using ho), hst, hp, low, ?_, ?_, ?_, ?_, ?_, ?_⟩
    · intro L hL k
      induction k using Nat.strongRecOn with
      | _ k ih =>
        intro i hk hLk hb
        have hko : k < ops.size := by simp at k1; omega
        have ho := Array.getElem?_eq_getElem hko
        have e1 := (c3 k ops[k] (by simpa using ho)).2
        rw [Nat.zero_add] at e1
        simp only [e1] at hb
        obtain ⟨e, he, hbi, h9⟩ := edgeMask_spec hb
        have he : e ∈ (ops[k]).after := by simpa using he
        have hLe := hL k _ ho hLk e he hbi
        rcases h9 with rfl | h9
        · exact hLe
        · have := low k _ ho e he hbi
          exact ih e.on this i (by omega) hLe h9
    · intro i j di dj hi hj hij a1 a2
      exact pr i j di dj hi hj hij (by simp [need, a1, a2, needC])
    · intro i j di dj hi hj hij a1 a2
      exact pr i j di dj hi hj hij (by simp [need, a1, a2, needC])
    · intro i j di dj hi hj hij a1 a2
      by_cases hc : i ∈ dj.chk
      · exact .inr hc
      · refine .inl (pr i j di dj hi hj hij ?_)
        have : memN i dj.chk = false := by rw [← Bool.not_eq_true, memN_spec]; exact hc
        simp [need, a1, a2, needC, this]
    · intro i j di dj hi hj hij a1 a2
      by_cases hc : i ∈ dj.chk
      · exact .inr hc
      · refine .inl (pr i j di dj hi hj hij ?_)
        have : memN i dj.chk = false := by rw [← Bool.not_eq_true, memN_spec]; exact hc
        simp [need, a1, a2, needC, this]
    · intro i j di dj t hi hj hij ha
      refine pr i j di dj hi hj hij ?_
      rcases ha with ⟨a1, a2⟩ | ⟨a1, a2⟩
      · simp [need, a1, memO, memN_spec.2 a2]
      · simp [need, a1, memO, memN_spec.2 a2]
  · cases h2

/-- A region that draws its order comes to what M says. -/
theorem drawS {P : Program} {call : CallFn} (hcs : CallS P call) (hm : CallMono call) {nt : Nat} {ops : Array Oper} {ds : List D} (hok : okDraw P nt ops ds = true)
    {Q : Exit → Act → World → Prop} {φ : Phi} {e : Env} {a : Act} {H : Heap} {s : DS} {w : World} (he : EnvR φ e a.tmps) (hs : a.tmps.size = nt) (hr : Rel φ H w) (hf : Fresh φ H (pushAll s.H s.pend))
    (hrun : runDs call 0 ds ⟨e, H, [], [], []⟩ = some s) (hQ : ∀ a' w', Ends P nt φ H w a.defers s.e (pushAll s.H s.pend) a' w' → Q .normal a' w') :
    wpAny P .any ops Q ops.size (Array.replicate ops.size false) a w := by
  obtain ⟨S, e1, e2, e3⟩ := runDs_states hrun
  have e3' : ∀ (k : Nat) d, ds[k]? = some d → d.run call k (S k) = some (S (k + 1)) := fun k d hd => by
    have := e3 k d hd
    rwa [Nat.zero_add] at this
  obtain ⟨B, R⟩ := okDraw_reg hcs hm hok (S := S) (by rw [e1]) e3'
  have nl : ∀ j, ¬ Listed (Array.replicate ops.size false) j := fun j => by
    unfold Listed
    by_cases h : j < ops.size <;> simp [h]
  refine R.any (φ0 := φ) (w0 := w) (df := a.defers) (fun a' w' h => ?_) _ _ a w 0 φ (by simp) (by rw [Array.countP_replicate]; simp) (fun k o _ h => (nl k h).elim) ?_
  · rw [e2, e1] at h
    exact hQ a' w' ⟨h⟩
  · refine ⟨Nat.zero_le _, fun j d hj h => by omega, fun j d _ _ _ _ hL => nl j hL, .inl rfl, by rw [e1]; exact hr, fun j d es z _ _ _ _ hL => (nl j hL).elim, fun j j' d d' es z es' z' p p' _ _ _ _ hL => (nl j hL).elim,
      fun b h1 h2 h3 => absurd (hf b (by rw [e1] at h1; exact h1) (by rw [e2] at h2; exact h2)) h3, Le.refl _, fun b _ => rfl, fun b _ => rfl, rfl, rfl, rfl, Nat.le_refl _, fun k h1 h2 => ⟨rfl, by rw [e1] at h2 ⊢; exact h2⟩, fun k h1 h2 => h2, fun t m v hm h1 h2 h3 => ?_, hs, rfl⟩
    rcases h2 with rfl | ⟨k, d, _, _, hL, _⟩
    · rw [e1] at h3
      exact he t v h3
    · exact (nl k hL).elim

end Go.Proofs.Ytnjmdkecpadehaa.M

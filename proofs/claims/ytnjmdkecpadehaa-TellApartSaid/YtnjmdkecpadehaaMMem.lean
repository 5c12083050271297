/- The framework M, tenth text: the operations that read, make or write memory. Conditions: the look 'okOp' at the operation. -/
import Derived.Test.YtnjmdkecpadehaaMApp
set_option linter.all false
set_option linter.unusedSimpArgs false
namespace Go.Proofs.Ytnjmdkecpadehaa.M

/-- What an operation yields: a value, or nothing. -/
def Yields (P : Program) (φ : Phi) (H : Heap) (w : World) (s : Sem Next) (v : Value) (H' : Heap) : Prop :=
  ∃ nx v' w' φ', s.run P w = .ok nx w' ∧ (nx = .value v' ∨ (nx = .skip ∧ v' = undef)) ∧ VR φ' v v' ∧ Rel φ' H' w' ∧ Step φ H w φ' H' w'
theorem Calm.yields {P : Program} {φ : Phi} {a : Act} {o : Oper} {w : World} {v : Value} {H H' : Heap} (h : Calm P φ a o w v H H') (hr : Rel φ H w) : Yields P φ H w (execOp a.eval o) v H' := by
  obtain ⟨rfl, v', e, hv⟩ := h
  exact ⟨_, v', w, φ, e, .inl rfl, hv, hr, Step.refl _ _ _⟩
theorem Rel.push_ptr {φ : Phi} {H : Heap} {w w' : World} (h : Rel φ H w) (hf : φ H.size = none) {cs cs' : List Value} {arr : Array Value} {el : TypeId} {fr : Nat × Nat} (es : Nat) (own : Bool) (ty : Option Nat) (hty : own = true → ∀ t, ty = some t → el = t)
    (hl : LR (VR0 φ) cs cs') (hheap : w'.heap = w.heap.push (.cells arr el fr)) (harr : arr.toList = cs') (hfr : own = true → fr = (0, 0))
    (hos : w'.os = w.os) (htape : w'.tape = w.tape) (hout : w'.output = w.output) :
    ∃ φ', VR φ' (.pointer (some ⟨H.size, 0, none⟩)) (.pointer (some ⟨w.heap.size, 0, none⟩)) ∧ Rel φ' (H.push ⟨cs, es, own, ty⟩) w' ∧ Step φ H w φ' (H.push ⟨cs, es, own, ty⟩) w' := by
  obtain ⟨r1, r2⟩ := h.push hf es own ty hty hl hheap (fun i v' hv => by rw [← harr] at hv; simpa using hv) hfr hos htape hout
  exact ⟨_, ⟨rfl, _, ext_at _ _ _, by simp⟩, r1, r2⟩
theorem reps_length (n : Nat) (z : List Value) : (reps n z).length = n * z.length := by
  induction n with
  | zero => simp [reps]
  | succ n ih => simp [reps, ih, Nat.add_mul]; omega
theorem reps_get (z : List Value) (hz : 0 < z.length) : ∀ (n i : Nat), i < n * z.length → (reps n z)[i]? = z[i % z.length]?
  | 0, i, h => by simp at h
  | n + 1, i, h => by
    simp only [reps]
    rw [List.getElem?_append]
    by_cases h1 : i < z.length
    · rw [if_pos h1, Nat.mod_eq_of_lt h1]
    · rw [if_neg h1, reps_get z hz n (i - z.length) (by rw [Nat.add_mul] at h; omega), ← Nat.mod_eq_sub_mod (by omega)]
theorem made_cells (zv : Array Value) (hz : 0 < zv.size) (n : Nat) : ((Array.range (n * zv.size)).map (zv[· % zv.size]!)).toList = reps n zv.toList := by
  apply List.ext_getElem?
  intro i
  by_cases hi : i < n * zv.size
  · rw [reps_get _ (by simpa using hz) n i (by simpa using hi)]
    have hm : i % zv.size < zv.size := Nat.mod_lt _ hz
    simp [hi, hm]
  · rw [List.getElem?_eq_none (by simpa using hi), List.getElem?_eq_none (by rw [reps_length]; simpa using hi)]
theorem zero_cells (zv : Array Value) (n : Nat) : (Builtin.zeroCells zv n).toList = reps n zv.toList := by
  unfold Builtin.zeroCells
  rcases Nat.eq_zero_or_pos zv.size with h0 | h0
  · have : zv = #[] := Array.eq_empty_of_size_eq_zero h0
    subst this
    have : reps n ([] : List Value) = [] := List.eq_nil_of_length_eq_zero (by simp [reps_length])
    simp [this]
  · exact made_cells zv h0 n
theorem LR.reps {Q : Value → Value → Prop} {x y : List Value} (h : LR Q x y) : ∀ n, LR Q (reps n x) (reps n y)
  | 0 => trivial
  | n + 1 => LR.append h (LR.reps h n)
theorem strV_spec : ∀ {cs : List Value} {l : List UInt8}, strV cs = some l → ∃ ns : List Int, cs = ns.map (Value.int .u8) ∧ l = ns.map fun n => UInt8.ofNat n.toNat
  | [], l, h => by cases h; exact ⟨[], rfl, rfl⟩
  | c :: cs, l, h => by
    unfold strV at h
    split at h
    · rename_i h9; cases h9
    · rename_i n r h9
      cases h9
      split at h <;> cases h
      rename_i l' hl'
      obtain ⟨ns, rfl, rfl⟩ := strV_spec hl'
      exact ⟨n :: ns, rfl, rfl⟩
    · cases h
theorem foldl_push (ns : List Int) : ∀ s : ByteArray, ns.foldl (fun r n => r.push (UInt8.ofNat n.toNat)) s = ⟨(s.data.toList ++ ns.map fun n => UInt8.ofNat n.toNat).toArray⟩ := by
  induction ns with
  | nil => intro s; simp
  | cons n ns ih =>
    intro s
    rw [List.foldl_cons, ih]
    simp [ByteArray.push]

theorem fillM_length : ∀ {vs : List (Nat × Nat × Value)} {z out : List Value}, fillM vs z = some out → out.length = z.length
  | [], z, out, h => by cases h; rfl
  | (off, n, v) :: r, z, out, h => by
    unfold fillM at h
    split at h
    · rename_i cs hcs
      cases hb : (Nat.beq cs.length n && Nat.ble (off + n) z.length) with
      | false => rw [hb] at h; cases h
      | true =>
        rw [hb, cond_true] at h
        obtain ⟨b1, b2⟩ := ok_and hb
        rw [beq_eq, decide_eq_true_eq] at b1
        have b2 := Nat.le_of_ble_eq_true b2
        rw [fillM_length h, splice_length _ _ _ (by omega)]
    · cases h
theorem own_shape {φ : Phi} {row : Row} {p : PB} {w : World} (rr : RowR φ row p w) (ho : row.own = true) : ∃ cur e, w.heap[p.r]? = some (.cells cur e (0, 0)) ∧ w.shape? p.r = some (e, cur.size) ∧ p.o + p.n ≤ cur.size ∧ ∀ t, row.ty = some t → e = t ∧ p.o = 0 := by
  obtain ⟨cur, e, hg, hc, ht⟩ := rr.own ho
  exact ⟨cur, e, hg, by simp [World.shape?, hg], hc, ht⟩
theorem run_unsafe_nil {P : Program} {s d : TypeId} (w : World) (h : (∃ t, P.underlying s = some (.pointer t)) ∧ P.underlying d = some .unsafePointer ∨ P.underlying s = some .unsafePointer ∧ ∃ t, P.underlying d = some (.pointer t)) :
    (convert s d (.pointer none)).run P w = .ok (.pointer none) w := by
  rcases h with ⟨⟨t, h1⟩, h2⟩ | ⟨h1, t, h2⟩
  · simp [convert, run_underlying h1, run_underlying h2, Conv.unsafePointer]
  · simp [convert, run_underlying h1, run_underlying h2, Conv.unsafePointer]
theorem run_p2u {P : Program} {s d t r o : Nat} {i : TypeInfo} {w : World} {e c : Nat} (h1 : P.underlying s = some (.pointer t)) (h2 : P.underlying d = some .unsafePointer) (hi : P.info? t = some i) (hz : i.size ≠ 0) (hs : w.shape? r = some (e, c)) (ho : o < c) :
    (convert s d (.pointer (some ⟨r, o, none⟩))).run P w = .ok (.pointer (some ⟨r, o, none⟩)) w := by
  have hoc : ¬ c ≤ o := by omega
  simp [convert, run_underlying h1, run_underlying h2, Conv.unsafePointer, Conv.seenAt, viewAt, cellsIn, hs, sizeOf, typeInfo, hi, hz, hoc]
theorem run_variablesAt {P : Program} {r u n o c e : Nat} {w : World} (hs : w.shape? r = some (e, c)) (he : e = u) (hz : P.cellsOf u ≠ 0) (hd : 0 < P.depth) (ho : o % P.cellsOf u = 0) (hc : o / P.cellsOf u + n ≤ c / P.cellsOf u) :
    (variablesAt ⟨r, o, none⟩ u n).run P w = .ok true w := by
  subst he
  obtain ⟨d, hd'⟩ : ∃ d, P.depth = d + 1 := ⟨P.depth - 1, by omega⟩
  simp [variablesAt, hs, hd', liesAt, rowAt, hz, ho, hc, sameLayout]
theorem run_u2p {P : Program} {s d u r : Nat} {w : World} {e c : Nat} {i : TypeInfo} (h1 : P.underlying s = some .unsafePointer) (h2 : P.underlying d = some (.pointer u)) (hs : w.shape? r = some (e, c)) (he : e = u) (hi : P.info? u = some i) (hz : P.cellsOf u ≠ 0) (hd : 0 < P.depth) (hc : P.cellsOf u ≤ c) :
    (convert s d (.pointer (some ⟨r, 0, none⟩))).run P w = .ok (.pointer (some ⟨r, 0, none⟩)) w := by
  have hv : ∀ w, w.shape? r = some (e, c) → (variablesAt ⟨r, 0, none⟩ u 1).run P w = .ok true w := fun w hs => run_variablesAt hs he hz hd (by simp) (by
    have := Nat.div_le_div_right (c := P.cellsOf u) hc
    rw [Nat.div_self (by omega)] at this
    simpa using this)
  simp [convert, run_underlying h1, run_underlying h2, Conv.unsafePointer, Conv.seenAt, viewAt, hs, sizeOf, typeInfo, hi, hv w hs]
theorem run_loadBytes {P : Program} {w : World} : ∀ (ns : List Int) (a : Addr) (acc : ByteArray), (∀ (j : Nat) v, (ns.map (Value.int .u8))[j]? = some v → w.cell? (a.add j) = some v) →
    (loadBytes a acc ns.length).run P w = .ok (ns.foldl (fun r n => r.push (UInt8.ofNat n.toNat)) acc) w
  | [], a, acc, h => by simp [loadBytes]
  | n :: ns, a, acc, h => by
    have h0 := h 0 (.int .u8 n) (by simp)
    rw [show a.add 0 = a by unfold Addr.add; split <;> simp_all] at h0
    have ih := run_loadBytes (P := P) ns (a.add 1) (acc.push (UInt8.ofNat n.toNat)) (fun j v hv => by
      have := h (j + 1) v (by simpa using hv)
      rw [← this]
      congr 1
      unfold Addr.add
      split <;> simp_all <;> omega)
    simp [loadBytes, h0]
    exact ih
theorem m3_eq {motive : Array Value → Sort _} (p : Option Addr) (v : Value) (h1 : ∀ p v, motive #[.pointer p, v]) (h2 : ∀ x, motive x) : Builtin.unsafeString_.match_3 motive #[.pointer p, v] h1 h2 = h1 p v := rfl
/-- A row is given up, and its block is worked on. -/
theorem Rel.drop {φ : Phi} {H : Heap} {w w' : World} (h : Rel φ H w) {b : Nat} {row : Row} {p : PB} (hrow : H.get b = some row) (hp : φ b = some p) (ho : row.own = true)
    (hk : ∀ k, k ≠ p.r → w'.heap[k]? = w.heap[k]?) (hsz : w'.heap.size = w.heap.size) (hos : w'.os = w.os) (htape : w'.tape = w.tape) (hout : w'.output = w.output) : Rel φ (H.set b none) w' ∧ Step φ H w φ (H.set b none) w' := by
  have old : ∀ c r, (H.set b none).get c = some r → c ≠ b ∧ H.get c = some r := fun c r hc => by
    rw [Heap.get_set] at hc
    split at hc
    · cases hc
    · rename_i e; exact ⟨e, hc⟩
  refine ⟨⟨fun c r hc => ?_, fun c r q c' r' q' h1 h2 h3 h4 => ?_, fun c r hc => ?_⟩, ⟨Le.refl _, fun _ _ => rfl, Nat.le_refl _, hos, htape, hout, by omega, fun k hk2 hn => ⟨hk k (fun e => hn ⟨b, row, p, hrow, ho, hp, e.symm⟩), ?_⟩, fun k hk2 hn => ?_⟩⟩
  · obtain ⟨hne, hc⟩ := old c r hc
    obtain ⟨q, hq, rr⟩ := h.row c r hc
    have hf : q.r ≠ p.r := fun e => h.apart b row p c r q hrow hp hc hq ho (fun e2 => hne e2.symm) e.symm
    refine ⟨q, hq, rr.len, rr.es, rr.le, by rw [hsz]; exact rr.lt, fun i v hv => ?_, fun ho' => by rw [hk _ hf]; exact rr.own ho'⟩
    obtain ⟨v', e1, e2⟩ := rr.cell i v hv
    exact ⟨v', by simpa [World.cell?, hk _ hf] using e1, e2⟩
  · obtain ⟨_, h1⟩ := old _ _ h1
    obtain ⟨_, h3⟩ := old _ _ h3
    exact h.apart c r q c' r' q' h1 h2 h3 h4
  · obtain ⟨_, hc⟩ := old c r hc
    exact h.top c r hc
  · rintro ⟨c, r, q, h1, h2, h3, h4⟩
    exact hn ⟨c, r, q, (old _ _ h1).2, h2, h3, h4⟩
  · rintro ⟨c, r, q, h1, h3, h4⟩
    exact hn ⟨c, r, q, (old _ _ h1).2, h3, h4⟩
theorem memS {P : Program} {φ : Phi} {call : CallFn} {e : Env} {a : Act} {H H' : Heap} {w : World} {o : Oper} {i : I} {v : Value}
    (hc : i.cls ≠ .calm) (hc1 : ∀ f xs, i ≠ .call f xs) (hc2 : ∀ f xs, i ≠ .callv f xs) (hok : okOp P o.op i = true) (he : EnvR φ e a.tmps) (hr : Rel φ H w) (hf : Fresh φ H H') (hrun : i.run call e H = some (v, H')) :
    Yields P φ H w (execOp a.eval o) v H' := by
  obtain ⟨dst, op, ty, pos, aft, gd⟩ := o
  simp only at hok
  cases i with
  | alloc es z =>
    simp only [I.run, Option.some.injEq, Prod.mk.injEq] at hrun
    obtain ⟨rfl, rfl⟩ := hrun
    simp only [okOp] at hok
    split at hok <;> try cases hok
    rename_i t
    obtain ⟨hte, hok⟩ := ok_and hok
    rw [beq_eq, decide_eq_true_eq] at hte
    obtain ⟨zv, hz, hzc, hzr⟩ := run_zeroValue' hok w
    have hfr : φ H.size = none := hf _ (Nat.le_refl _) (by simp [Heap.size_push])
    obtain ⟨φ', h1, h2, h3⟩ := hr.push_ptr (w' := { w with heap := w.heap.push (.cells zv.cells t) }) hfr es true (some es) (fun _ u e => by cases e; exact hte) (hzr φ) rfl hzc (fun _ => rfl) rfl rfl rfl
    exact ⟨_, _, _, φ', by simp [execOp, Instr.alloc, hz, newVar, newRow], .inl rfl, h1, h2, h3⟩
  | box n y =>
    simp only [I.run] at hrun
    split at hrun <;> try cases hrun
    rename_i u hu
    split at hrun <;> try cases hrun
    rename_i cs hcs
    simp only [beq_eq] at hrun
    by_cases hn : cs.length = n
    · rw [decide_eq_true hn, cond_true] at hrun
      cases hrun
      simp only [okOp] at hok
      split at hok <;> try cases hok
      rename_i t x
      have hx := okX_ev he hok hu
      have hfr : φ H.size = none := hf _ (Nat.le_refl _) (by simp [Heap.size_push])
      obtain ⟨φ', h1, h2, h3⟩ := hr.push_ptr (w' := { w with heap := w.heap.push (.cells (a.eval x).cells t) }) hfr n true none (fun _ _ e => by cases e) (hx.cells hcs) rfl rfl (fun _ => rfl) rfl rfl rfl
      exact ⟨_, _, _, φ', by simp [execOp, Instr.box, newVar, newRow], .inl rfl, h1, h2, h3⟩
    · rw [decide_eq_false hn] at hrun; cases hrun
  | bsl es z m ps =>
    simp only [I.run] at hrun
    split at hrun <;> try cases hrun
    rename_i vs hvs
    split at hrun <;> cases hrun
    rename_i cs hcs
    simp only [okOp] at hok
    split at hok <;> try cases hok
    rename_i t n parts
    obtain ⟨k1, k4⟩ := ok_and hok
    obtain ⟨k1, k3⟩ := ok_and k1
    obtain ⟨k1, k2⟩ := ok_and k1
    rw [beq_eq, decide_eq_true_eq] at k1
    subst k1
    have k2 := Nat.le_of_ble_eq_true k2
    have k3 : 0 < es := Nat.le_of_ble_eq_true k3
    split at k4 <;> try cases k4
    rename_i el hel
    obtain ⟨k4, k9⟩ := ok_and k4
    obtain ⟨k4, k7⟩ := ok_and k4
    obtain ⟨k4, k6⟩ := ok_and k4
    rw [beq_eq, decide_eq_true_eq] at k7
    have hu := sliceOf_spec hel
    have hsz := run_sizeOf' k4 w
    obtain ⟨zv, hz, hzc, hzr⟩ := run_zeroValue' k6 w
    have hpr := okParts2_spec (φ := φ) he es k9 hvs
    obtain ⟨out', hfl, hl⟩ := fill_spec hpr ((hzr φ).reps n) hcs
    have hfr : φ H.size = none := hf _ (Nat.le_refl _) (by simp [Heap.size_push])
    have hlen : cs.length = n * es := by rw [fillM_length hcs, reps_length, k7]
    obtain ⟨r1, r2⟩ := hr.push (w' := { w with heap := w.heap.push (.cells out'.toArray el) }) hfr es true none (fun _ _ e => by cases e) hl rfl (fun i v' hv => by simpa using hv) (fun _ => rfl) rfl rfl rfl
    have hlen' : out'.length = n * es := by rw [← hl.length, hlen]
    refine ⟨_, .slice (some ⟨w.heap.size, 0, none⟩) n n, _, _, ?_, .inl rfl, ⟨rfl, _, _, _, ext_at _ _ _, rfl, Nat.le_refl _, Nat.le_refl _, by simp [hlen], by simp [hlen'], fun _ => by simp, .inl rfl⟩, r1, r2⟩
    have hzs : zv.cells.size = es := by rw [← k7, ← hzc]; simp
    have hno : ¬ (16777216 < n * es) := by omega
    rcases Nat.eq_zero_or_pos n with h0 | h0
    · subst h0
      simp [reps] at hfl
      simp [execOp, Instr.buildSlice, run_underlying hu, hsz, newRow, show Array.range 0 = #[] from rfl, hfl]
    · have hmc := made_cells zv.cells (by omega) n
      rw [hzc] at hmc
      have hmc' : (Array.range (n * es)).map (zv.cells[· % zv.cells.size]!) = (reps n z).toArray := by
        apply Array.ext'
        rw [hzs] at hmc
        simpa [hzs] using hmc
      have hne' : ¬ (n = 0 ∨ es = 0) := by omega
      simp [execOp, Instr.buildSlice, run_underlying hu, hsz, newRow, hno, hne', hz]
      rw [hmc', hfl]
      simp
      intro h9
      exfalso
      have := Nat.mul_pos h0 k3
      omega
  | load agg n y =>
    simp only [I.run] at hrun
    split at hrun <;> try cases hrun
    rename_i b off hv
    split at hrun <;> try cases hrun
    rename_i cs hcs
    simp only [okOp] at hok
    split at hok <;> try cases hok
    rename_i t x
    obtain ⟨k1, k4⟩ := ok_and hok
    obtain ⟨k1, k3⟩ := ok_and k1
    obtain ⟨k1, k2⟩ := ok_and k1
    obtain ⟨_, p, hp, e1⟩ := okX_ev he k1 hv
    obtain ⟨p', hp', hlen, cs', hl, hcell⟩ := hr.loadN hcs
    rw [hp] at hp'
    cases hp'
    cases agg with
    | true =>
      simp only [cond_true] at hrun
      cases hrun
      have hn : n = cs'.length := by rw [← hl.length, hlen]
      refine ⟨_, .agg cs'.toArray, w, φ, ?_, .inl rfl, VR.agg hl, hr, Step.refl _ _ _⟩
      have hsz := run_sizeOf' k3 w
      rw [hn] at hsz
      have hld := run_loadCells_list (P := P) w ⟨p.r, p.o + off, none⟩ cs' hcell
      simp [execOp, e1, Instr.loadAt, Instr.sureAddr, loadVar, run_isAgg' k2, hsz, hld]
    | false =>
      simp only [cond_false] at hrun
      split at hrun <;> cases hrun
      rename_i u
      obtain ⟨u', z, e2, h2, h3⟩ := LR.cons_left hl
      have := LR.nil_left h3
      subst this
      subst e2
      refine ⟨_, u', w, φ, ?_, .inl rfl, VR.of_VR0 h2, hr, Step.refl _ _ _⟩
      have hld := hcell 0 u' rfl
      simp only [add_at, Nat.add_zero] at hld
      simp [execOp, e1, Instr.loadAt, Instr.sureAddr, loadVar, run_isAgg' k2, hld]
  | store n y z =>
    simp only [I.run] at hrun
    split at hrun <;> try cases hrun
    rename_i b off u hv hu
    split at hrun <;> try cases hrun
    rename_i cs hcs
    simp only [beq_eq] at hrun
    by_cases hn : cs.length = n
    · rw [decide_eq_true hn, cond_true] at hrun
      split at hrun <;> cases hrun
      rename_i hst
      simp only [okOp] at hok
      split at hok <;> try cases hok
      rename_i t x x2
      obtain ⟨k1, k3⟩ := ok_and hok
      obtain ⟨k1, k2⟩ := ok_and k1
      obtain ⟨_, p, hp, e1⟩ := okX_ev he k1 hv
      have hx := okX_ev he k2 hu
      have hl := hx.cells hcs
      obtain ⟨p', w', hp', e2, r1, r2⟩ := hr.store (P := P) hst hl
      rw [hp] at hp'
      cases hp'
      have hsz := run_sizeOf' k3 w
      have hcn : (a.eval x2).cells.size = n := by rw [← hn, hl.length]; simp
      exact ⟨_, undef, w', φ, by simp [execOp, e1, Instr.storeAt, Instr.sureAddr, storeVar, hsz, hcn, e2], .inr ⟨rfl, rfl⟩, VR.unit φ, r1, r2⟩
    · rw [decide_eq_false hn] at hrun; cases hrun
  | s2b y =>
    simp only [I.run] at hrun
    split at hrun <;> cases hrun
    rename_i s hv
    simp only [okOp] at hok
    split at hok <;> try cases hok
    rename_i ts td x
    obtain ⟨k1, k3⟩ := ok_and hok
    obtain ⟨k1, k2⟩ := ok_and k1
    split at k2 <;> try cases k2
    rename_i el hel
    have e1 := (okX_ev he k3 hv).string
    have hus := isStr_spec k1
    have hud := sliceOf_spec hel
    have hue := isKind_spec k2
    have hfr : φ H.size = none := hf _ (Nat.le_refl _) (by simp [Heap.size_push])
    have hge : s.size ≤ grownCap w s.size 0 el := grownCap_ge w s.size 0 el
    have hbv : LR (VR0 φ) (bytesV s) (bytesV s) := by
      unfold bytesV
      generalize s.data.toList = l
      induction l with
      | nil => exact trivial
      | cons a l ih => exact ⟨rfl, ih⟩
    have hbl : (bytesV s).length = s.size := by simp [bytesV]
    obtain ⟨r1, r2⟩ := hr.push (w' := { w.drew with heap := w.heap.push (.cells ((bytesV s).toArray ++ Array.replicate (grownCap w s.size 0 el - s.size) (Value.int .u8 0)) el (s.size + (grownCap w s.size 0 el - s.size), s.size + (grownCap w s.size 0 el - s.size) + 1)) }) hfr 1 false none (fun e => by cases e) hbv rfl (fun i v' hv => by
      have := (List.getElem?_eq_some_iff.1 hv).1
      rw [Array.getElem?_append_left (by simpa using this)]; simpa using hv) (fun e => by cases e) rfl rfl rfl
    refine ⟨_, .slice (some ⟨w.heap.size, 0, none⟩) s.size (grownCap w s.size 0 el), _, _, ?_, .inl rfl, ⟨rfl, _, _, _, ext_at _ _ _, rfl, Nat.le_refl _, hge, by simp [hbl], by rw [Nat.zero_add, Nat.mul_one]; simp only [Array.size_append, List.size_toArray, hbl, Array.size_replicate]; omega, fun _ => by simp, .inr (by simp [hbl])⟩, r1, r2⟩
    have hmod : ∀ (xs : Array Obj) (o : Obj) (f : Obj → Obj), (xs.push o).modify xs.size f = xs.push (f o) := by
      intro xs o f
      apply Array.ext
      · simp
      · intro i h1 h2
        simp at h1 h2
        by_cases hi : i = xs.size
        · subst hi; simp [Array.getElem_modify]
        · have : ¬ xs.size = i := fun e => hi e.symm
          simp [Array.getElem_modify, Array.getElem_push, this, show i < xs.size by omega]
    have hbe : Array.map (fun b : UInt8 => Value.int IntKind.u8 (b.toNat : Int)) s.data = (bytesV s).toArray := by
      apply Array.ext'; simp [bytesV]
    have hms : ∀ (W : World) (c : Array Value), W.heap[w.heap.size]? = some (.cells c el (0, 0)) → (markStringish ⟨w.heap.size, 0, none⟩).run P W = .ok () (W.freeze ⟨w.heap.size, c.size, none⟩ 1) := by
      intro W c h
      simp [markStringish, World.shape?, h]
    have hm := hms (w.drew.alloc (.cells ((bytesV s).toArray ++ Array.replicate (grownCap w s.size 0 el - s.size) (Value.int .u8 0)) el)) _ (heap_alloc_new _ _)
    have hcv : (Conv.stringToBytes el s).run P w = .ok (.slice (some ⟨w.heap.size, 0, none⟩) s.size (grownCap w s.size 0 el)) ((w.drew.alloc (.cells ((bytesV s).toArray ++ Array.replicate (grownCap w s.size 0 el - s.size) (Value.int .u8 0)) el)).freeze ⟨w.heap.size, ((bytesV s).toArray ++ Array.replicate (grownCap w s.size 0 el - s.size) (Value.int .u8 0)).size, none⟩ 1) := by
      rw [← hbe] at hm ⊢
      unfold grownCap at hm ⊢
      simp only [Conv.stringToBytes, Sem.run_bind, run_choose, Question.forced, Bool.false_eq_true, if_false, Result.andThen_ok, newRow, run_newObj, Sem.run_pure]
      have hm' := hm
      simp only [World.alloc, World.drew] at hm'
      rw [hm']
      rfl
    simp only [execOp, e1, convert, Sem.run_bind, run_underlying hus, run_underlying hud, run_underlying hue, Result.andThen_ok, hcv, Sem.run_pure]
    congr 1
    simp only [World.freeze, World.alloc, World.drew]
    rw [if_neg (by decide), hmod]
    simp [hbl]
  | b2s y =>
    simp only [I.run] at hrun
    simp only [okOp] at hok
    split at hok <;> try cases hok
    rename_i ts td x
    obtain ⟨k1, k3⟩ := ok_and hok
    obtain ⟨k1, k2⟩ := ok_and k1
    split at k2 <;> try cases k2
    rename_i el hel
    have hud := isStr_spec k1
    have hus := sliceOf_spec hel
    have hue := isKind_spec k2
    split at hrun
    · rename_i n c hv
      cases hrun
      obtain ⟨rfl, rfl, e1⟩ := okX_ev he k3 hv
      exact ⟨_, .string ByteArray.empty, w, φ, by simp [execOp, e1, convert, run_underlying hud, run_underlying hus, run_underlying hue, Conv.bytesToString], .inl rfl, rfl, hr, Step.refl _ _ _⟩
    · rename_i b off n c hv
      obtain ⟨_, p, c', a', hp, e1, q1, q2, q3, q4, q5, q6⟩ := okX_ev he k3 hv
      have hcv : ∀ {q : Value}, (Conv.bytesToString (.slice (some a') n c')).run P w = .ok q w → (execOp a.eval { dst := dst, op := Op.convert ts td x, type := ty, pos := pos, after := aft, guard := gd }).run P w = .ok (.value q) w := by
        intro q hq
        simp [execOp, e1, convert, run_underlying hud, run_underlying hus, run_underlying hue, hq]
      have empty : n = 0 → (Conv.bytesToString (.slice (some a') n c')).run P w = .ok (.string ByteArray.empty) w := by
        intro h0
        subst h0
        have := run_bytesToString (P := P) w a' 0 c' [] (by simp [loadCells, loadCellsFrom])
        simpa using this
      split at hrun
      · rename_i cs hcs
        split at hrun <;> cases hrun
        rename_i l hl
        obtain ⟨ns, rfl, rfl⟩ := strV_spec hl
        obtain ⟨p', hp', hlen, cs', hlr, hcell⟩ := hr.loadN hcs
        rw [hp] at hp'
        cases hp'
        have hcs' : cs' = ns.map (Value.int .u8) := by
          apply List.ext_getElem?
          intro i
          rcases Nat.lt_or_ge i ns.length with hi | hi
          · obtain ⟨v', h1, h2⟩ := hlr.get i (.int .u8 ns[i]) (by simp [hi])
            rw [h1]
            simp [hi]
            exact h2
          · rw [List.getElem?_eq_none (by have := hlr.length; simp at this; omega), List.getElem?_eq_none (by simpa using hi)]
        subst hcs'
        rcases Nat.eq_zero_or_pos n with h0 | h0
        · have hns : ns = [] := List.eq_nil_of_length_eq_zero (by simpa [h0] using hlen)
          subst hns
          exact ⟨_, .string ByteArray.empty, w, φ, hcv (empty h0), .inl rfl, rfl, hr, Step.refl _ _ _⟩
        · have ha := q5 (by omega)
          subst ha
          have hld := run_loadCells_list (P := P) w _ _ hcell
          have hnl : (ns.map (Value.int .u8)).length = n := hlen
          rw [hnl] at hld
          have hb := run_bytesToString (P := P) w _ n c' ns hld
          rw [foldl_push] at hb
          exact ⟨_, _, w, φ, hcv hb, .inl rfl, rfl, hr, Step.refl _ _ _⟩
      · simp only [beq_eq] at hrun
        by_cases h0 : n = 0
        · rw [decide_eq_true h0, cond_true] at hrun
          cases hrun
          exact ⟨_, .string ByteArray.empty, w, φ, hcv (empty h0), .inl rfl, rfl, hr, Step.refl _ _ _⟩
        · rw [decide_eq_false h0] at hrun; cases hrun
    · cases hrun
  | mks es z bytes l c =>
    simp only [I.run] at hrun
    split at hrun <;> try cases hrun
    rename_i n m h1 h2
    split at hrun <;> cases hrun
    rename_i hb
    simp only [okOp] at hok
    split at hok <;> try cases hok
    rename_i t x y
    obtain ⟨k1, k3⟩ := ok_and hok
    obtain ⟨k1, k2⟩ := ok_and k1
    split at k1 <;> try cases k1
    rename_i el hel
    obtain ⟨k1, k4⟩ := ok_and k1
    obtain ⟨i, zz, hi, hsz, hby, hes, hbp, hz, hzs⟩ := infoB_spec k1
    have hu := sliceOf_spec hel
    have e1 := (okX_ev he k2 h1).int
    have e2 := (okX_ev he k3 h2).int
    obtain ⟨zv, hz2, hzc, hzr⟩ := run_zeroValue' k4 w
    have hzv : zv = zz := by
      have : (zeroValue el).run P w = .ok zz w := by simp [zeroValue, typeInfo, hi, hz]
      rw [this] at hz2
      cases hz2
      rfl
    subst hzv
    have hzl : z.length = es := by rw [← hzc]; simpa using hzs
    have hfr : φ H.size = none := hf _ (Nat.le_refl _) (by simp [Heap.size_push])
    obtain ⟨r1, r2⟩ := hr.push (w' := { w with heap := w.heap.push (.cells (reps m.toNat z).toArray el) }) hfr es true none (fun _ _ e => by cases e) ((hzr φ).reps m.toNat) rfl (fun i v' hv => by simpa using hv) (fun _ => rfl) rfl rfl rfl
    refine ⟨_, .slice (some ⟨w.heap.size, 0, none⟩) n.toNat m.toNat, _, _, ?_, .inl rfl, ⟨rfl, _, _, _, ext_at _ _ _, rfl, by omega, Nat.le_refl _, by simp [reps_length, hzl], by simp [reps_length, hzl], fun _ => by simp, .inl rfl⟩, r1, r2⟩
    have hmod2 : ∀ n : Int, 0 ≤ n → n ≤ 9223372036854775807 → IntKind.i64.wrap n = n := by
      intro n h1 h2
      rw [IntKind.wrap_i64]
      omega
    have hbb : ¬ (((m < 0 ∨ (281474976710656 : Int) < ↑i.bytes * m) ∨ n < 0) ∨ m < n) := by
      have h9 := hb.2.2.1
      rw [← hby, Int.mul_comm] at h9
      omega
    simp [execOp, e1, e2, Instr.makeSlice, run_underlying hu, typeInfo, hi, asInt, asIntOf, hmod2 n hb.1 (by omega), hmod2 m (by omega) hb.2.2.2]
    rw [if_neg hbb]
    rcases Nat.eq_zero_or_pos m.toNat with h0 | h0
    · simp [sizeOf, typeInfo, hi, h0, newRow, show Array.range 0 = #[] from rfl, reps]
    · have hmc := made_cells zv.cells (by omega) m.toNat
      have hne : ¬ m.toNat * es = 0 := by
        have := Nat.mul_pos h0 hes
        omega
      have hmc' : (Array.range (m.toNat * es)).map (zv.cells[· % zv.cells.size]!) = (reps m.toNat z).toArray := by
        apply Array.ext'
        rw [hzc, hzs] at hmc
        simpa [hzs] using hmc
      simp only [sizeOf, typeInfo, Sem.run_bind, run_program, Result.andThen_ok, hi, Sem.run_pure, hsz, if_neg hne, hz2, newRow, run_newObj, hmc']
      rfl
  | app ty0 es bytes y z =>
    simp only [I.run] at hrun
    split at hrun <;> try cases hrun
    rename_i u1 u2 h1 h2
    simp only [okOp] at hok
    split at hok <;> try cases hok
    rename_i as ts
    split at hok <;> try cases hok
    rename_i x u t t' hx ht
    obtain ⟨k1, k4⟩ := ok_and hok
    obtain ⟨k1, k3⟩ := ok_and k1
    obtain ⟨k1, k2⟩ := ok_and k1
    split at k1 <;> try cases k1
    rename_i el hel
    obtain ⟨kt, kinf⟩ := ok_and k1
    rw [beq_eq, decide_eq_true_eq] at kt
    subst kt
    have hx' : as = #[x, u] := Array.ext' (by simpa using hx)
    have ht' : ts = #[t, t'] := Array.ext' (by simpa using ht)
    subst hx' ht'
    have hut : (∃ e, P.underlying t' = some (.slice e)) ∨ P.underlying t' = some .string := by
      rcases Bool.or_eq_true_iff.1 k2 with h9 | h9
      · obtain ⟨e, h9⟩ := isSome'_spec h9; exact .inl ⟨e, sliceOf_spec h9⟩
      · exact .inr (isStr_spec h9)
    obtain ⟨v', w', φ', e1, r0, r1, r2⟩ := appS (P := P) (ty := ty) hr (sliceOf_spec hel) kinf hut (okX_ev he k3 h1) (okX_ev he k4 h2) hf hrun
    exact ⟨_, v', w', φ', by simp [execOp, resolve, invoke, builtin, e1], .inl rfl, r0, r1, r2⟩
  | clr es z y =>
    simp only [I.run] at hrun
    simp only [okOp] at hok
    split at hok <;> try cases hok
    rename_i as ts
    split at hok <;> try cases hok
    rename_i x t hx ht
    obtain ⟨k1, k2⟩ := ok_and hok
    split at k1 <;> try cases k1
    rename_i el hel
    have hx' : as = #[x] := Array.ext' (by simpa using hx)
    have ht' : ts = #[t] := Array.ext' (by simpa using ht)
    subst hx' ht'
    have hu := sliceOf_spec hel
    split at hrun
    · rename_i n c hv
      cases hrun
      obtain ⟨_, _, e1⟩ := okX_ev he k2 hv
      exact ⟨_, unit, w, φ, by simp [execOp, resolve, invoke, builtin, Builtin.clear_, e1, run_underlying hu]; rfl, .inl rfl, VR.unit φ, hr, Step.refl _ _ _⟩
    · rename_i b off n c hv
      obtain ⟨_, p, c', a', hp, e1, q1, q2, q3, q4, q5, q6⟩ := okX_ev he k2 hv
      simp only [beq_eq] at hrun
      by_cases h0 : n = 0
      · rw [decide_eq_true h0, cond_true] at hrun
        cases hrun
        subst h0
        exact ⟨_, unit, w, φ, by simp [execOp, resolve, invoke, builtin, Builtin.clear_, e1, run_underlying hu]; rfl, .inl rfl, VR.unit φ, hr, Step.refl _ _ _⟩
      · rw [decide_eq_false h0, cond_false] at hrun
        split at hrun <;> cases hrun
        rename_i hst
        obtain ⟨zv, hz, hzc, hzr⟩ := run_zeroValue' k1 w
        obtain ⟨p', w', hp', e2, r1, r2⟩ := hr.store (P := P) hst ((hzr φ).reps n)
        rw [hp] at hp'
        cases hp'
        have ha := q5 (by omega)
        subst ha
        have hzz : (Builtin.zeroCells zv.cells n).toList = reps n z := by rw [zero_cells, hzc]
        obtain ⟨n', rfl⟩ : ∃ n', n = n' + 1 := ⟨n - 1, by omega⟩
        exact ⟨_, unit, w', φ, by simp [execOp, resolve, invoke, builtin, Builtin.clear_, e1, run_underlying hu, hz, hzz, e2]; rfl, .inl rfl, VR.unit φ, r1, r2⟩
    · cases hrun
  | p2u y =>
    simp only [I.run] at hrun
    simp only [okOp] at hok
    split at hok <;> try cases hok
    rename_i s d x
    obtain ⟨k1, k3⟩ := ok_and hok
    obtain ⟨k1, k2⟩ := ok_and k1
    split at k1 <;> try cases k1
    rename_i t ht
    split at k1 <;> try cases k1
    rename_i i hi
    have hs := ptrTo_spec ht
    have hd := isUnsafe_spec k2
    split at hrun
    · rename_i hv
      cases hrun
      have e1 : a.eval x = .pointer none := okX_ev he k3 hv
      exact ⟨_, .pointer none, w, φ, by simp [execOp, e1, run_unsafe_nil w (.inl ⟨⟨t, hs⟩, hd⟩)], .inl rfl, rfl, hr, Step.refl _ _ _⟩
    · rename_i b off hv
      split at hrun <;> try cases hrun
      rename_i row hrow
      rw [cond_eq_ite] at hrun
      split at hrun <;> cases hrun
      rename_i hb
      obtain ⟨ho, hlt⟩ := ok_and hb
      have hlt : off < row.cells.length := Nat.le_of_ble_eq_true hlt
      obtain ⟨_, p, hp, e1⟩ := okX_ev he k3 hv
      obtain ⟨p', hp', rr⟩ := hr.row b row hrow
      rw [hp] at hp'
      cases hp'
      obtain ⟨cur, e, hg, hsh, hcur, hte⟩ := own_shape rr ho
      have hlen := rr.len
      have hle := rr.le
      have := run_p2u (P := P) (w := w) (o := p.o + off) hs hd hi (fun h0 => by rw [h0] at k1; cases k1) hsh (by omega)
      exact ⟨_, _, w, φ, by simp [execOp, e1, this], .inl rfl, ⟨rfl, p, hp, rfl⟩, hr, Step.refl _ _ _⟩
    · cases hrun
  | u2p ty0 n y =>
    simp only [I.run] at hrun
    simp only [okOp] at hok
    split at hok <;> try cases hok
    rename_i s d x
    obtain ⟨k1, k3⟩ := ok_and hok
    obtain ⟨kun, k2⟩ := ok_and k1
    split at k2 <;> try cases k2
    rename_i u hu
    obtain ⟨k2, m5⟩ := ok_and k2
    obtain ⟨k2, m4⟩ := ok_and k2
    obtain ⟨k2, m3⟩ := ok_and k2
    obtain ⟨m1, m2⟩ := ok_and k2
    rw [beq_eq, decide_eq_true_eq] at m1 m2
    subst m1
    have m3 : 0 < n := Nat.le_of_ble_eq_true m3
    have m5 : 0 < P.depth := Nat.le_of_ble_eq_true m5
    have hs := isUnsafe_spec kun
    have hd := ptrTo_spec hu
    obtain ⟨i, hi⟩ : ∃ i, P.info? u = some i := by
      unfold szIs at m4
      split at m4
      · rename_i i hi; exact ⟨i, hi⟩
      · cases m4
    split at hrun
    · rename_i hv
      cases hrun
      have e1 : a.eval x = .pointer none := okX_ev he k3 hv
      exact ⟨_, .pointer none, w, φ, by simp [execOp, e1, run_unsafe_nil w (.inr ⟨hs, u, hd⟩)], .inl rfl, rfl, hr, Step.refl _ _ _⟩
    · rename_i b off hv
      split at hrun <;> try cases hrun
      rename_i row hrow
      rw [cond_eq_ite] at hrun
      split at hrun <;> try cases hrun
      rename_i hb
      split at hrun <;> try cases hrun
      rename_i t ht
      rw [cond_eq_ite] at hrun
      split at hrun <;> cases hrun
      rename_i htu
      rw [beq_eq, decide_eq_true_eq] at htu
      subst htu
      obtain ⟨ho, hb⟩ := ok_and hb
      obtain ⟨h0, hlt⟩ := ok_and hb
      rw [beq_eq, decide_eq_true_eq] at h0
      subst h0
      have hlt := Nat.le_of_ble_eq_true hlt
      obtain ⟨_, p, hp, e1⟩ := okX_ev he k3 hv
      obtain ⟨p', hp', rr⟩ := hr.row b row hrow
      rw [hp] at hp'
      cases hp'
      obtain ⟨cur, e, hg, hsh, hcur, hte⟩ := own_shape rr ho
      obtain ⟨q1, q2⟩ := hte _ ht
      have hlen := rr.len
      have hle := rr.le
      have := run_u2p (P := P) (w := w) hs hd hsh q1 hi (by omega) m5 (by omega)
      rw [q2] at e1
      exact ⟨_, .pointer (some ⟨p.r, 0, none⟩), w, φ, by simp [execOp, e1, this], .inl rfl, ⟨rfl, p, hp, by rw [q2]⟩, hr, Step.refl _ _ _⟩
    · cases hrun
  | uss ty0 y z =>
    simp only [I.run] at hrun
    simp only [okOp] at hok
    split at hok <;> try cases hok
    rename_i as ts
    obtain ⟨k1, k2⟩ := ok_and hok
    split at k1 <;> try cases k1
    rename_i pt hpt
    split at k1 <;> try cases k1
    rename_i u hu
    obtain ⟨k1, m3⟩ := ok_and k1
    obtain ⟨m1, m2⟩ := ok_and k1
    rw [beq_eq, decide_eq_true_eq] at m1 m2
    subst m1
    have m3 : 0 < P.depth := Nat.le_of_ble_eq_true m3
    have hup := ptrTo_spec hu
    have hmx : IntKind.i64.max = 9223372036854775807 := by decide
    have args : ∀ v1 v2, y.ev e = some v1 → z.ev e = some v2 → ∃ b1 b2, as.map a.eval = #[b1, b2] ∧ VR φ v1 b1 ∧ VR φ v2 b2 := by
      intro v1 v2 h1 h2
      obtain ⟨b1, r1, e1, q1, q2⟩ := LR.cons_left (okXs_ev he k2 (vs := [v1, v2]) (by simp [evs, h1, h2]))
      obtain ⟨b2, r2, e2, q3, q4⟩ := LR.cons_left q2
      have := LR.nil_left q4
      subst this
      subst e2
      exact ⟨b1, b2, Array.ext' (by simpa using e1), q1, q3⟩
    have wr : ∀ n : Int, 0 ≤ n → n ≤ 9223372036854775807 → IntKind.i64.wrap n = n := by
      intro n h1 h2
      rw [IntKind.wrap_i64]
      omega
    split at hrun
    · rename_i m h1 h2
      split at hrun <;> cases hrun
      rename_i hm
      subst hm
      obtain ⟨b1, b2, hb, q1, q2⟩ := args _ _ h1 h2
      obtain rfl : b1 = .pointer none := q1
      obtain rfl : b2 = .int .i64 0 := q2
      exact ⟨_, .string ByteArray.empty, w, φ, by
        simp [execOp, resolve, invoke, builtin, hb, wr]
        delta Builtin.unsafeString_
        rw [m3_eq]
        simp [asInt, asIntOf, wr, hpt, hmx], .inl rfl, rfl, hr, Step.refl _ _ _⟩
    · rename_i b off m h1 h2
      split at hrun <;> try cases hrun
      rename_i hm
      split at hrun <;> try cases hrun
      rename_i row hrow
      split at hrun <;> try cases hrun
      rename_i t ht
      rw [cond_eq_ite] at hrun
      split at hrun <;> try cases hrun
      rename_i hb
      split at hrun <;> try cases hrun
      rename_i cs hcs
      split at hrun <;> cases hrun
      rename_i l hl
      obtain ⟨ho, htu⟩ := ok_and hb
      rw [beq_eq, decide_eq_true_eq] at htu
      subst htu
      obtain ⟨b1, b2, hbb, q1, q2⟩ := args _ _ h1 h2
      obtain ⟨_, p, hp, rfl⟩ := q1
      obtain rfl : b2 = .int .i64 m := q2
      obtain ⟨p', hp', rr⟩ := hr.row b row hrow
      rw [hp] at hp'
      cases hp'
      obtain ⟨cur, el, hg, hsh, hcur, hte⟩ := own_shape rr ho
      obtain ⟨t1, t2⟩ := hte _ ht
      obtain ⟨ns, rfl, rfl⟩ := strV_spec hl
      obtain ⟨p', hp', hlen, cs', hlr, hcell⟩ := hr.loadN hcs
      rw [hp] at hp'
      cases hp'
      have hcs' : cs' = ns.map (Value.int .u8) := by
        apply List.ext_getElem?
        intro i
        rcases Nat.lt_or_ge i ns.length with hi | hi
        · obtain ⟨v', h1, h2⟩ := hlr.get i (.int .u8 ns[i]) (by simp [hi])
          rw [h1]
          simp [hi]
          exact h2
        · rw [List.getElem?_eq_none (by have := hlr.length; simp at this; omega), List.getElem?_eq_none (by simpa using hi)]
      subst hcs'
      have hnl : ns.length = m.toNat := by simpa using hlen
      have hfit : off + m.toNat ≤ row.cells.length := by
        unfold Heap.loadN at hcs
        rw [hrow] at hcs
        simp only [beq_eq] at hcs
        rw [cond_eq_ite] at hcs
        split at hcs
        · rename_i h9
          simp at h9
          omega
        · cases hcs
      have hln := rr.len
      have hle := rr.le
      have hv := run_variablesAt (P := P) (w := w) (n := m.toNat) (o := p.o + off) hsh t1 (by omega) m3 (by rw [m2, Nat.mod_one]) (by rw [m2, Nat.div_one, Nat.div_one]; omega)
      have hlb := run_loadBytes (P := P) ns _ ByteArray.empty hcell
      rw [hnl, foldl_push] at hlb
      have hm0 : ¬ m = 0 := by omega
      have hm1 : ¬ m < 0 := by omega
      have hm2 : ¬ (9223372036854775807 : Int) < m := by omega
      obtain ⟨d1, d2⟩ := hr.drop (w' := w.freeze ⟨p.r, p.o + off, none⟩ m.toNat) hrow hp ho (fun k hk => by
        unfold World.freeze
        split
        · rfl
        · simp [Array.getElem?_modify, Ne.symm hk]) (by
        unfold World.freeze
        split
        · rfl
        · simp) (by unfold World.freeze; split <;> rfl) (by unfold World.freeze; split <;> rfl) (by unfold World.freeze; split <;> rfl)
      refine ⟨.value (.string ⟨(ns.map fun n : Int => UInt8.ofNat n.toNat).toArray⟩), .string ⟨(ns.map fun n : Int => UInt8.ofNat n.toNat).toArray⟩, _, φ, ?_, .inl rfl, rfl, d1, d2⟩
      simp [execOp, resolve, invoke, builtin, hbb, wr m (by omega) hm.2]
      delta Builtin.unsafeString_
      rw [m3_eq]
      simp [asInt, asIntOf, wr m (by omega) hm.2, hpt, hm0, hm1, hm2, hmx, elemOf, run_underlying hup, hv, hlb]
    · cases hrun
  | slc es x lo hi top => exact (calmS (.inr ⟨_, _, _, _, _, rfl⟩) hok he hr hrun).yields hr
  | call f xs => exact absurd rfl (hc1 _ _)
  | callv f xs => exact absurd rfl (hc2 _ _)
  | _ => simp [I.cls] at hc

end Go.Proofs.Ytnjmdkecpadehaa.M

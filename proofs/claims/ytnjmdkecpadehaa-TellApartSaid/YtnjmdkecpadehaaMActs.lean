/- The framework M, eighth text: what the making and the writing of rows does to M's heap and to the world. Conditions: as the laws say. -/
import Derived.Test.YtnjmdkecpadehaaMCalm4
import Derived.Laws.CopyRow
set_option linter.all false
set_option linter.unusedSimpArgs false
namespace Go.Proofs.Ytnjmdkecpadehaa.M

def ext (φ : Phi) (b : Nat) (p : PB) : Phi := fun c => if c = b then some p else φ c
theorem ext_at (φ : Phi) (b : Nat) (p : PB) : ext φ b p b = some p := by simp [ext]
theorem ext_ne (φ : Phi) {b c : Nat} (p : PB) (h : c ≠ b) : ext φ b p c = φ c := by simp [ext, h]
theorem ext_le {φ : Phi} {b : Nat} (p : PB) (h : φ b = none) : Le φ (ext φ b p) := fun c q hq => by
  by_cases e : c = b
  · subst e; rw [h] at hq; cases hq
  · rw [ext_ne φ p e]; exact hq

theorem Rel.push {φ : Phi} {H : Heap} {w w' : World} (h : Rel φ H w) (hf : φ H.size = none) {cs cs' : List Value} {arr : Array Value} {el : TypeId} {fr : Nat × Nat} (es : Nat) (own : Bool) (ty : Option Nat) (hty : own = true → ∀ t, ty = some t → el = t)
    (hl : LR (VR0 φ) cs cs') (hheap : w'.heap = w.heap.push (.cells arr el fr)) (harr : ∀ (i : Nat) v', cs'[i]? = some v' → arr[i]? = some v') (hfr : own = true → fr = (0, 0))
    (hos : w'.os = w.os) (htape : w'.tape = w.tape) (hout : w'.output = w.output) :
    Rel (ext φ H.size ⟨w.heap.size, 0, arr.size, es, cs.length⟩) (H.push ⟨cs, es, own, ty⟩) w' ∧ Step φ H w (ext φ H.size ⟨w.heap.size, 0, arr.size, es, cs.length⟩) (H.push ⟨cs, es, own, ty⟩) w' := by
  have hle := ext_le ⟨w.heap.size, 0, arr.size, es, cs.length⟩ hf
  have hold : ∀ k, k < w.heap.size → w'.heap[k]? = w.heap[k]? := fun k hk => by rw [hheap, Array.getElem?_push, if_neg (Nat.ne_of_lt hk)]
  have hnew : w'.heap[w.heap.size]? = some (.cells arr el fr) := by rw [hheap]; simp
  have hsz : w'.heap.size = w.heap.size + 1 := by rw [hheap]; simp
  have hlen : cs.length ≤ arr.size := by
    rcases Nat.eq_zero_or_pos cs.length with h0 | h0
    · omega
    · have h1 : cs'.length = cs.length := hl.length.symm
      have h2 := harr (cs.length - 1) (cs'[cs.length - 1]'(by omega)) (List.getElem?_eq_getElem _)
      have := (Array.getElem?_eq_some_iff.1 h2).1
      omega
  have rowOld : ∀ b row, b ≠ H.size → H.get b = some row → ∃ p, φ b = some p ∧ RowR (ext φ H.size ⟨w.heap.size, 0, arr.size, es, cs.length⟩) row p w' := by
    intro b row hb hr
    obtain ⟨p, hp, rr⟩ := h.row b row hr
    refine ⟨p, hp, rr.len, rr.es, rr.le, by have := rr.lt; omega, fun i v hv => ?_, fun ho => ?_⟩
    · obtain ⟨v', e1, e2⟩ := rr.cell i v hv
      exact ⟨v', by simpa [World.cell?, hold p.r rr.lt] using e1, e2.mono hle⟩
    · rw [hold p.r rr.lt]; exact rr.own ho
  refine ⟨⟨fun b row hb => ?_, fun b row p b' row' p' h1 h2 h3 h4 ho hne => ?_, fun b row hb => ?_⟩, ⟨hle, fun b hb => ?_, by simp [Heap.size_push], hos, htape, hout, by omega, fun k hk hn => ⟨hold k hk, ?_⟩, fun k hk hn => ?_⟩⟩
  · rw [Heap.get_push] at hb
    split at hb
    · rename_i e
      subst e
      cases hb
      refine ⟨_, ext_at _ _ _, rfl, rfl, hlen, by simp; omega, fun i v hv => ?_, fun ho => ?_⟩
      · obtain ⟨v', e1, e2⟩ := hl.get i v hv
        refine ⟨v', ?_, e2.mono hle⟩
        simp only [World.cell?, hnew, Nat.zero_add]
        exact harr i v' e1
      · rw [hfr ho] at hnew
        exact ⟨arr, el, hnew, by simp, fun t ht => ⟨hty ho t ht, rfl⟩⟩
    · rename_i e
      obtain ⟨p, hp, rr⟩ := rowOld b row e hb
      exact ⟨p, by rw [ext_ne _ _ e]; exact hp, rr⟩
  · rw [Heap.get_push] at h1 h3
    have lt : ∀ c rw_ q, c ≠ H.size → H.get c = some rw_ → φ c = some q → q.r < w.heap.size := fun c rw_ q hc hg hq => by
      obtain ⟨q', hq', rr⟩ := h.row c rw_ hg
      rw [hq] at hq'; cases hq'
      exact rr.lt
    split at h1
    · rename_i e1
      subst e1
      rw [ext_at] at h2
      cases h2
      have e2 : b' ≠ H.size := fun e => hne e.symm
      rw [if_neg e2] at h3
      rw [ext_ne _ _ e2] at h4
      have := lt _ _ _ e2 h3 h4
      simp
      omega
    · rename_i e1
      rw [ext_ne _ _ e1] at h2
      split at h3
      · rename_i e2
        subst e2
        rw [ext_at] at h4
        cases h4
        have := lt _ _ _ e1 h1 h2
        simp
        omega
      · rename_i e2
        rw [ext_ne _ _ e2] at h4
        exact h.apart b row p b' row' p' h1 h2 h3 h4 ho hne
  · rw [Heap.get_push] at hb
    rw [Heap.size_push]
    split at hb
    · omega
    · have := h.top b row hb; omega
  · rw [Heap.size_push] at hb
    exact ext_ne _ _ (by omega)
  · rintro ⟨b, row, p, h1, h2, h3, h4⟩
    rw [Heap.get_push] at h1
    split at h1
    · rename_i e
      subst e
      rw [ext_at] at h3
      cases h3
      simp at h4
      omega
    · rename_i e
      rw [ext_ne _ _ e] at h3
      exact hn ⟨b, row, p, h1, h2, h3, h4⟩
  · rintro ⟨b, row, p, h1, h3, h4⟩
    rw [Heap.get_push] at h1
    split at h1
    · rename_i e
      subst e
      rw [ext_at] at h3
      cases h3
      simp at h4
      omega
    · rename_i e
      rw [ext_ne _ _ e] at h3
      exact hn ⟨b, row, p, h1, h3, h4⟩

theorem Rel.kill {φ : Phi} {H : Heap} {w : World} (h : Rel φ H w) (b : Nat) : Rel φ (H.set b none) w ∧ Step φ H w φ (H.set b none) w := by
  have sub : ∀ c row, (H.set b none).get c = some row → H.get c = some row := fun c row hc => by
    rw [Heap.get_set] at hc
    split at hc
    · cases hc
    · exact hc
  exact ⟨⟨fun c row hc => h.row c row (sub c row hc), fun c row p c' row' p' h1 h2 h3 h4 => h.apart c row p c' row' p' (sub _ _ h1) h2 (sub _ _ h3) h4, fun c row hc => h.top c row (sub c row hc)⟩,
    ⟨Le.refl _, fun _ _ => rfl, Nat.le_refl _, rfl, rfl, rfl, Nat.le_refl _, fun k hk hn => ⟨rfl, fun ⟨c, row, p, h1, h2, h3, h4⟩ => hn ⟨c, row, p, sub _ _ h1, h2, h3, h4⟩⟩, fun k hk hn ⟨c, row, p, h1, h3, h4⟩ => hn ⟨c, row, p, sub _ _ h1, h3, h4⟩⟩⟩

theorem LR.ones {φ : Phi} {x y : List Value} (h : LR (VR0 φ) x y) : ∀ v ∈ y, v.oneCell' = true := fun v hv => by
  obtain ⟨i, hi⟩ := List.getElem?_of_mem hv
  obtain ⟨u, _, hu⟩ := h.get' i v hi
  exact hu.one.1
theorem splice_get (xs vs : List Value) (off i : Nat) (h : off + vs.length ≤ xs.length) : (splice xs off vs)[i]? = if off ≤ i ∧ i < off + vs.length then vs[i - off]? else xs[i]? := by
  unfold splice
  rw [List.append_assoc, List.getElem?_append, List.length_take, Nat.min_eq_left (by omega)]
  by_cases h1 : i < off
  · rw [if_pos h1, List.getElem?_take_of_lt h1, if_neg (by omega)]
  · rw [if_neg h1, List.getElem?_append]
    by_cases h2 : i - off < vs.length
    · rw [if_pos h2, if_pos (by omega)]
    · rw [if_neg h2, if_neg (by omega), List.getElem?_drop]
      congr 1
      omega
theorem splice_length (xs vs : List Value) (off : Nat) (h : off + vs.length ≤ xs.length) : (splice xs off vs).length = xs.length := by
  unfold splice
  simp
  omega
/-- The world behind a store into a block of one's own. -/
theorem run_store_at {P : Program} {w : World} {r o : Nat} {cur : Array Value} {e : TypeId} {cs' : List Value} (hg : w.heap[r]? = some (.cells cur e (0, 0))) (hfit : o + cs'.length ≤ cur.size) (h1 : ∀ v ∈ cs', v.oneCell' = true) :
    ∃ w' new, (storeCells ⟨r, o, none⟩ cs').run P w = .ok () w' ∧ w'.heap[r]? = some (.cells new e (0, 0)) ∧ new.toList = splice cur.toList o cs' ∧ (∀ k, k ≠ r → w'.heap[k]? = w.heap[k]?) ∧ w'.heap.size = w.heap.size ∧ w'.os = w.os ∧ w'.tape = w.tape ∧ w'.output = w.output := by
  have := run_storeCells_at P r o e cs' 0 cur w hg (by simpa using hfit) h1
  simp only [Nat.add_zero] at this
  exact ⟨_, _, this, setRow_heap w r cur _ e _ hg, by simp [splice], fun k hk => setRow_other w r k _ hk, by simp [World.setRow], rfl, rfl, rfl⟩
theorem Rel.store {P : Program} {φ : Phi} {H H' : Heap} {w : World} (h : Rel φ H w) {b off : Nat} {cs cs' : List Value} (hs : H.storeN b off cs = some H') (hl : LR (VR0 φ) cs cs') :
    ∃ p w', φ b = some p ∧ (storeCells ⟨p.r, p.o + off, none⟩ cs').run P w = .ok () w' ∧ Rel φ H' w' ∧ Step φ H w φ H' w' := by
  unfold Heap.storeN at hs
  split at hs
  · rename_i row hrow
    obtain ⟨p, hp, rr⟩ := h.row b row hrow
    cases hb : (row.own && Nat.ble (off + cs.length) row.cells.length) with
    | false => rw [hb] at hs; cases hs
    | true =>
      rw [hb, cond_true] at hs
      cases hs
      obtain ⟨ho, hfit⟩ := ok_and hb
      have hfit := Nat.le_of_ble_eq_true hfit
      obtain ⟨cur, e, hg, hcur, hte⟩ := rr.own ho
      have hcl : cs'.length = cs.length := hl.length.symm
      have hlen := rr.len
      have hle := rr.le
      obtain ⟨w', new, e1, e2, e3, e4, e5, e6, e7, e8⟩ := run_store_at (P := P) (o := p.o + off) hg (by omega) hl.ones
      have far : ∀ c row' p', c ≠ b → H.get c = some row' → φ c = some p' → p'.r ≠ p.r := fun c row' p' hc h1 h2 h3 => h.apart b row p c row' p' hrow hp h1 h2 ho (fun e => hc e.symm) h3.symm
      refine ⟨p, w', hp, e1, ⟨fun c row' hc => ?_, fun c row1 p1 c' row2 p2 h1 h2 h3 h4 h5 h6 => ?_, fun c row' hc => ?_⟩, ⟨Le.refl _, fun _ _ => rfl, Nat.le_refl _, e6, e7, e8, by omega, fun k hk hn => ⟨e4 k (fun e9 => hn ⟨b, row, p, hrow, ho, hp, e9.symm⟩), ?_⟩, fun k hk hn => ?_⟩⟩
      · rw [Heap.get_set] at hc
        split at hc
        · rename_i e9
          subst e9
          cases hc
          have hnl : new.size = cur.size := by
            have : new.toList.length = cur.toList.length := by rw [e3, splice_length _ _ _ (by simp; omega)]
            simpa using this
          refine ⟨p, hp, by simp only [splice_length _ _ _ hfit]; exact hlen, rr.es, hle, by have := rr.lt; omega, fun i v hv => ?_, fun _ => ⟨new, e, e2, by omega, hte⟩⟩
          have hcell : w'.cell? ⟨p.r, p.o + i, none⟩ = (splice cur.toList (p.o + off) cs')[p.o + i]? := by
            simp [World.cell?, e2, ← e3]
          rw [hcell, splice_get _ _ _ _ (by simp; omega)]
          simp only [splice_get _ _ _ _ hfit] at hv
          by_cases hi : off ≤ i ∧ i < off + cs.length
          · rw [if_pos hi] at hv
            rw [if_pos (by omega), show p.o + i - (p.o + off) = i - off by omega]
            exact hl.get _ _ hv
          · rw [if_neg hi] at hv
            rw [if_neg (by omega)]
            obtain ⟨v', h1, h2⟩ := rr.cell i v hv
            exact ⟨v', by simpa [World.cell?, hg] using h1, h2⟩
        · rename_i e9
          obtain ⟨p', hp', rr'⟩ := h.row c row' hc
          have hf := far c row' p' e9 hc hp'
          refine ⟨p', hp', rr'.len, rr'.es, rr'.le, by have := rr'.lt; omega, fun i v hv => ?_, fun ho' => by rw [e4 _ hf]; exact rr'.own ho'⟩
          obtain ⟨v', h1, h2⟩ := rr'.cell i v hv
          exact ⟨v', by simpa [World.cell?, e4 _ hf] using h1, h2⟩
      · have sub : ∀ c r, (H.set b (some { row with cells := splice row.cells off cs })).get c = some r → ∃ r0, H.get c = some r0 ∧ r0.own = r.own := fun c r hc => by
          rw [Heap.get_set] at hc
          split at hc
          · rename_i e9; subst e9; cases hc; exact ⟨row, hrow, rfl⟩
          · exact ⟨r, hc, rfl⟩
        obtain ⟨r1, g1, g2⟩ := sub _ _ h1
        obtain ⟨r2, g3, g4⟩ := sub _ _ h3
        exact h.apart c r1 p1 c' r2 p2 g1 h2 g3 h4 (g2.trans h5) h6
      · rw [Heap.get_set] at hc
        rw [Heap.size_set]
        split at hc
        · rename_i e9; subst e9; exact h.top _ _ hrow
        · exact h.top _ _ hc
      · rintro ⟨c, r, q, h1, h2, h3, h4⟩
        rw [Heap.get_set] at h1
        split at h1
        · rename_i e9
          subst e9
          cases h1
          exact hn ⟨c, row, q, hrow, h2, h3, h4⟩
        · exact hn ⟨c, r, q, h1, h2, h3, h4⟩
      · rintro ⟨c, r, q, h1, h3, h4⟩
        rw [Heap.get_set] at h1
        split at h1
        · rename_i e9
          subst e9
          cases h1
          exact hn ⟨c, row, q, hrow, h3, h4⟩
        · exact hn ⟨c, r, q, h1, h3, h4⟩
  · cases hs
/-- Append in place, into the room behind a row of one's own: the old row is gone, the new one lies where it lay. -/
theorem Rel.grow {P : Program} {φ : Phi} {H : Heap} {w : World} (h : Rel φ H w) (hf : φ H.size = none) {b off k es : Nat} {row : Row} {p : PB} {cs cs' : List Value} (hrow : H.get b = some row) (hp : φ b = some p) (ho : row.own = true)
    (hk : off + k ≤ row.cells.length) (hl : LR (VR0 φ) cs cs') (hroom : off + k + cs.length ≤ p.n) (ty : Option Nat) (hty : ∀ t, ty = some t → row.ty = some t ∧ off = 0) :
    ∃ w', (storeCells ⟨p.r, p.o + (off + k), none⟩ cs').run P w = .ok () w' ∧
      Rel (ext φ H.size ⟨p.r, p.o + off, p.n - off, es, k + cs.length⟩) ((H.set b none).push ⟨(row.cells.drop off).take k ++ cs, es, true, ty⟩) w' ∧
      Step φ H w (ext φ H.size ⟨p.r, p.o + off, p.n - off, es, k + cs.length⟩) ((H.set b none).push ⟨(row.cells.drop off).take k ++ cs, es, true, ty⟩) w' := by
  obtain ⟨p', hp', rr⟩ := h.row b row hrow
  rw [hp] at hp'
  cases hp'
  obtain ⟨cur, e, hg, hcur, hte⟩ := rr.own ho
  have hcl : cs'.length = cs.length := hl.length.symm
  have hlen := rr.len
  have hle := rr.le
  obtain ⟨w', new, e1, e2, e3, e4, e5, e6, e7, e8⟩ := run_store_at (P := P) (o := p.o + (off + k)) hg (by omega) hl.ones
  have hbs : b < H.size := h.top b row hrow
  have hle' := ext_le ⟨p.r, p.o + off, p.n - off, es, k + cs.length⟩ hf
  have far : ∀ c row' p', c ≠ b → H.get c = some row' → φ c = some p' → p'.r ≠ p.r := fun c row' p' hc h1 h2 h3 => h.apart b row p c row' p' hrow hp h1 h2 ho (fun e => hc e.symm) h3.symm
  have old : ∀ c r, c ≠ H.size → ((H.set b none).push ⟨(row.cells.drop off).take k ++ cs, es, true, ty⟩).get c = some r → c ≠ b ∧ H.get c = some r := fun c r hc hr => by
    rw [Heap.get_push, Heap.size_set, if_neg hc, Heap.get_set] at hr
    split at hr
    · cases hr
    · rename_i e9; exact ⟨e9, hr⟩
  have hsz : ((H.set b none).push ⟨(row.cells.drop off).take k ++ cs, es, true, ty⟩).size = H.size + 1 := by rw [Heap.size_push, Heap.size_set]
  have hnl : new.size = cur.size := by
    have : new.toList.length = cur.toList.length := by rw [e3, splice_length _ _ _ (by simp; omega)]
    simpa using this
  refine ⟨w', e1, ⟨fun c r hc => ?_, fun c r1 p1 c' r2 p2 h1 h2 h3 h4 h5 h6 => ?_, fun c r hc => ?_⟩, ⟨hle', fun c hc => ?_, by omega, e6, e7, e8, by omega, fun j hj hn => ⟨e4 j (fun e9 => hn ⟨b, row, p, hrow, ho, hp, e9.symm⟩), ?_⟩, fun j hj hn => ?_⟩⟩
  · by_cases hcs : c = H.size
    · subst hcs
      rw [Heap.get_push, Heap.size_set, if_pos rfl] at hc
      cases hc
      refine ⟨_, ext_at _ _ _, by simp; omega, rfl, by simp; omega, by simp; have := rr.lt; omega, fun i v hv => ?_, fun _ => ⟨new, e, e2, by simp; omega, fun t ht => ⟨(hte t (hty t ht).1).1, by have h7 := (hte t (hty t ht).1).2; have h8 := (hty t ht).2; simp; omega⟩⟩⟩
      have hcell : w'.cell? ⟨p.r, p.o + off + i, none⟩ = (splice cur.toList (p.o + (off + k)) cs')[p.o + off + i]? := by
        simp [World.cell?, e2, ← e3]
      simp only
      rw [hcell, splice_get _ _ _ _ (by simp; omega)]
      simp only at hv
      rw [List.getElem?_append] at hv
      have htl : ((row.cells.drop off).take k).length = k := by simp; omega
      rw [htl] at hv
      by_cases hi : i < k
      · rw [if_pos hi, List.getElem?_take_of_lt hi, List.getElem?_drop] at hv
        rw [if_neg (by omega)]
        obtain ⟨v', h1, h2⟩ := rr.cell _ v hv
        refine ⟨v', ?_, h2.mono hle'⟩
        rw [show p.o + off + i = p.o + (off + i) by omega]
        simpa [World.cell?, hg] using h1
      · rw [if_neg hi] at hv
        have hi2 : i - k < cs.length := (List.getElem?_eq_some_iff.1 hv).1
        rw [if_pos (by omega), show p.o + off + i - (p.o + (off + k)) = i - k by omega]
        obtain ⟨v', h1, h2⟩ := hl.get _ _ hv
        exact ⟨v', h1, h2.mono hle'⟩
    · obtain ⟨hcb, hg'⟩ := old c r hcs hc
      obtain ⟨p', hp', rr'⟩ := h.row c r hg'
      have hfar := far c r p' hcb hg' hp'
      refine ⟨p', by rw [ext_ne _ _ hcs]; exact hp', rr'.len, rr'.es, rr'.le, by have := rr'.lt; omega, fun i v hv => ?_, fun ho' => by rw [e4 _ hfar]; exact rr'.own ho'⟩
      obtain ⟨v', h1, h2⟩ := rr'.cell i v hv
      exact ⟨v', by simpa [World.cell?, e4 _ hfar] using h1, h2.mono hle'⟩
  · by_cases c1 : c = H.size
    · subst c1
      rw [ext_at] at h2
      cases h2
      have c2 : c' ≠ H.size := fun e => h6 e.symm
      obtain ⟨d1, d2⟩ := old c' r2 c2 h3
      rw [ext_ne _ _ c2] at h4
      exact fun e => far c' r2 p2 d1 d2 h4 e.symm
    · obtain ⟨d1, d2⟩ := old c r1 c1 h1
      rw [ext_ne _ _ c1] at h2
      by_cases c2 : c' = H.size
      · subst c2
        rw [ext_at] at h4
        cases h4
        exact far c r1 p1 d1 d2 h2
      · obtain ⟨d3, d4⟩ := old c' r2 c2 h3
        rw [ext_ne _ _ c2] at h4
        exact h.apart c r1 p1 c' r2 p2 d2 h2 d4 h4 h5 h6
  · rw [hsz]
    by_cases hcs : c = H.size
    · omega
    · obtain ⟨_, hg'⟩ := old c r hcs hc
      have := h.top c r hg'
      omega
  · rw [hsz] at hc
    exact ext_ne _ _ (by omega)
  · rintro ⟨c, r, q, h1, h2, h3, h4⟩
    by_cases hcs : c = H.size
    · subst hcs
      rw [ext_at] at h3
      cases h3
      exact hn ⟨b, row, p, hrow, ho, hp, h4⟩
    · obtain ⟨d1, d2⟩ := old c r hcs h1
      rw [ext_ne _ _ hcs] at h3
      exact hn ⟨c, r, q, d2, h2, h3, h4⟩
  · rintro ⟨c, r, q, h1, h3, h4⟩
    by_cases hcs : c = H.size
    · subst hcs
      rw [ext_at] at h3
      cases h3
      exact hn ⟨b, row, p, hrow, hp, h4⟩
    · obtain ⟨d1, d2⟩ := old c r hcs h1
      rw [ext_ne _ _ hcs] at h3
      exact hn ⟨c, r, q, d2, h3, h4⟩

end Go.Proofs.Ytnjmdkecpadehaa.M

/- The framework M, ninth text: append, as M has it. Conditions: the look 'okOp' at the operation. -/
import Derived.Test.YtnjmdkecpadehaaMActs
import Derived.Laws.Append
import Derived.Laws.BytesString
set_option linter.all false
set_option linter.unusedSimpArgs false
namespace Go.Proofs.Ytnjmdkecpadehaa.M

theorem infoB_spec {P : Program} {t es bytes : Nat} (h : infoB P t es bytes = true) : ∃ i z, P.info? t = some i ∧ i.size = es ∧ i.bytes = bytes ∧ 0 < es ∧ 0 < bytes ∧ i.zero = some z ∧ z.cells.size = es := by
  unfold infoB at h
  split at h
  · rename_i i hi
    obtain ⟨h, h4⟩ := ok_and h
    obtain ⟨h, h5⟩ := ok_and h
    obtain ⟨h, h3⟩ := ok_and h
    obtain ⟨h1, h2⟩ := ok_and h
    split at h4
    · rename_i z hz
      rw [beq_eq, decide_eq_true_eq] at h1 h2 h4
      exact ⟨i, z, hi, h1, h2, Nat.le_of_ble_eq_true h3, Nat.le_of_ble_eq_true h5, hz, h4⟩
    · cases h4
  · cases h

/-- The second argument of an append: how many elements, which cells. -/
theorem news_spec {P : Program} {φ : Phi} {H : Heap} {w : World} (hr : Rel φ H w) {es : Nat} {x x' : Value} {cs : List Value} {m : Nat} (h : newOf H es x = some (cs, m)) (hx : VR φ x x') :
    ∃ cs', LR (VR0 φ) cs cs' ∧ cs.length = m * es ∧ (∀ w2 : World, (Builtin.lenOf x').run P w2 = .ok m w2) ∧ ∀ w2 : World, w2.heap = w.heap → (Builtin.firstCells es m x').run P w2 = .ok (List.toArray cs') w2 := by
  unfold newOf at h
  split at h
  · cases h
    obtain ⟨_, _, rfl⟩ := hx
    exact ⟨[], trivial, by simp, fun w2 => by simp [Builtin.lenOf], fun w2 _ => by simp [Builtin.firstCells]⟩
  · rename_i b off n c
    obtain ⟨_, p, c', a', hp, rfl, q1, q2, q3, q4, q5, q6⟩ := hx
    split at h
    · rename_i cs0 hcs
      cases h
      obtain ⟨p', hp', hlen, cs', hl, hcell⟩ := hr.loadN hcs
      rw [hp] at hp'
      cases hp'
      refine ⟨cs', hl, hlen, fun w2 => by simp [Builtin.lenOf], fun w2 e => ?_⟩
      rcases Nat.eq_zero_or_pos m with h0 | h0
      · subst h0
        have : cs' = [] := List.eq_nil_of_length_eq_zero (by rw [← hl.length, hlen]; simp)
        subst this
        simp [Builtin.firstCells, loadCells, loadCellsFrom]
      · rw [q5 (by omega)]
        have hn : m * es = cs'.length := by rw [← hl.length, hlen]
        simp only [Builtin.firstCells]
        rw [hn]
        exact run_loadCells_list w2 _ cs' fun j v hj => by simpa [World.cell?, e] using hcell j v hj
    · simp only [beq_eq] at h
      cases hb : decide (n = 0) with
      | false => rw [hb] at h; cases h
      | true =>
        rw [hb, cond_true] at h
        cases h
        rw [decide_eq_true_eq] at hb
        subst hb
        exact ⟨[], trivial, by simp, fun w2 => by simp [Builtin.lenOf], fun w2 _ => by simp [Builtin.firstCells, loadCells, loadCellsFrom]⟩
  · rename_i s
    simp only [beq_eq] at h
    cases hb : decide (es = 1) with
    | false => rw [hb] at h; cases h
    | true =>
      rw [hb, cond_true] at h
      cases h
      rw [decide_eq_true_eq] at hb
      subst hb
      obtain rfl := hx.string
      refine ⟨bytesV s, ?_, by simp [bytesV], fun w2 => by simp [Builtin.lenOf], fun w2 _ => ?_⟩
      · unfold bytesV
        generalize s.data.toList = l
        induction l with
        | nil => exact trivial
        | cons a l ih => exact ⟨rfl, ih⟩
      · have e : s.extract 0 s.size = s := by
          simp
        simp only [Builtin.firstCells, e, Sem.run_pure, bytesV]
        congr 1
        apply Array.ext'
        simp
  · cases h

section
variable {P : Program} {w : World} {t t' ty el : TypeId} {i : TypeInfo} {z : Value} {es n c m : Nat} {base : Option Addr} {x : Value} {cs : List Value}
theorem run_app_room (ht : P.underlying t = some (.slice el)) (hi : P.info? el = some i) (hs : i.size = es) (ht' : (∃ e, P.underlying t' = some (.slice e)) ∨ P.underlying t' = some .string)
    (hlen : ∀ w2 : World, (Builtin.lenOf x).run P w2 = .ok m w2) (hnew : ∀ w2 : World, w2.heap = w.heap → (Builtin.firstCells es m x).run P w2 = .ok (List.toArray cs) w2) (hroom : n + m ≤ c) :
    (Builtin.append_ #[t, t'] ty #[.slice base n c, x]).run P w = (match base with
      | some a => ((storeCells (a.add (n * es)) cs).run P w).andThen fun _ w' => .ok (.slice base (n + m) c) w'
      | none => .ok (.slice base (n + m) c) w) := by
  have hn := hnew w rfl
  subst hs
  rcases ht' with ⟨e, ht'⟩ | ht' <;> cases base <;>
    simp [Builtin.append_, run_underlying ht, run_underlying ht', sizeOf, typeInfo, hi, hlen, hroom, hn]
theorem run_app_grow (ht : P.underlying t = some (.slice el)) (hi : P.info? el = some i) (hs : i.size = es) (hz : i.zero = some z) (ht' : (∃ e, P.underlying t' = some (.slice e)) ∨ P.underlying t' = some .string)
    (hlen : ∀ w2 : World, (Builtin.lenOf x).run P w2 = .ok m w2) (hnew : ∀ w2 : World, w2.heap = w.heap → (Builtin.firstCells es m x).run P w2 = .ok (List.toArray cs) w2)
    {old : List Value} (hold : ∀ w2 : World, w2.heap = w.heap → (Builtin.firstCells es n (.slice base n c)).run P w2 = .ok (List.toArray old) w2)
    (hroom : c < n + m) (hfit : (n + m) * i.bytes ≤ 140737488355328) (hb : 0 < i.bytes) :
    (Builtin.append_ #[t, t'] ty #[.slice base n c, x]).run P w = .ok (.slice (some ⟨w.heap.size, 0, none⟩) (n + m) (grownCap w (n + m) c el))
        (w.drew.alloc (.cells ((old ++ cs).toArray ++ Builtin.zeroCells z.cells (grownCap w (n + m) c el - (n + m))) el)) := by
  subst hs
  have hn : ¬ (n + m ≤ c) := by omega
  have hle : n + m ≤ (n + m) * i.bytes := Nat.le_mul_of_pos_right _ hb
  have h63' : ¬ (9223372036854775807 < ((n : Int) + (m : Int))) := by omega
  have hf48 := growslice_fits (old := c) (by omega) hfit
  have h48' : ¬ (281474976710656 < Builtin.nextslicecap (n + m) c * i.bytes) := by omega
  have hf := hnew w.drew rfl
  have hfo := hold w.drew rfl
  have e9 : old.toArray ++ cs.toArray = (old ++ cs).toArray := by simp
  rcases ht' with ⟨e, ht'⟩ | ht' <;>
    (simp [Builtin.append_, run_underlying ht, run_underlying ht', sizeOf, typeInfo, zeroValue, hi, hz, hlen, hn, h63', h48', Question.forced, hf, hfo, newRow, grownCap]
     rw [← Array.append_assoc, e9])
end
/-- What a step yields. -/
def Yields' (P : Program) (φ : Phi) (H : Heap) (w : World) (s : Sem Value) (v : Value) (H' : Heap) : Prop :=
  ∃ v' w' φ', s.run P w = .ok v' w' ∧ VR φ' v v' ∧ Rel φ' H' w' ∧ Step φ H w φ' H' w'
theorem keepTy_spec {ty off t : Nat} {o : Option Nat} (h : keepTy ty off o = some t) : o = some t ∧ t = ty ∧ off = 0 := by
  unfold keepTy at h
  split at h
  · rename_i u
    cases hb : (Nat.beq u ty && Nat.beq off 0) with
    | false => rw [hb] at h; cases h
    | true =>
      rw [hb] at h
      cases h
      obtain ⟨h1, h2⟩ := ok_and hb
      rw [beq_eq, decide_eq_true_eq] at h1 h2
      subst h1
      exact ⟨rfl, rfl, h2⟩
  · cases h
theorem appS {P : Program} {φ : Phi} {H H' : Heap} {w : World} (hr : Rel φ H w) {t t' ty el es bytes : Nat} (ht : P.underlying t = some (.slice el)) (hinf : infoB P el es bytes = true)
    (ht' : (∃ e, P.underlying t' = some (.slice e)) ∨ P.underlying t' = some .string) {s x s' x' v : Value} (hs : VR φ s s') (hx : VR φ x x') (hf : Fresh φ H H')
    (h : appV el es bytes H s x = some (v, H')) : Yields' P φ H w (Builtin.append_ #[t, t'] ty #[s', x']) v H' := by
  obtain ⟨i, z, hi, hsz, hby, hes, hbp, hz, hzs⟩ := infoB_spec hinf
  unfold appV at h
  split at h
  · cases h
  · rename_i cs m hnw
    obtain ⟨cs', hl, hlen, hlo, hfc⟩ := news_spec (P := P) hr hnw hx
    have hl' : cs'.length = m * es := by rw [← hl.length, hlen]
    have nothing : m = 0 → cs' = [] := fun e => List.eq_nil_of_length_eq_zero (by rw [hl', e]; simp)
    split at h
    · obtain ⟨_, _, rfl⟩ := hs
      simp only [beq_eq] at h
      by_cases hm : m = 0
      · rw [decide_eq_true hm, cond_true] at h
        cases h
        subst hm
        refine ⟨_, w, φ, run_app_room ht hi hsz ht' hlo hfc (Nat.le_refl _), ⟨rfl, rfl, rfl⟩, hr, Step.refl _ _ _⟩
      · rw [decide_eq_false hm, cond_false] at h
        cases hb : Nat.ble (m * bytes) room with
        | false => rw [hb] at h; cases h
        | true =>
          rw [hb, cond_true] at h
          cases h
          have hb := Nat.le_of_ble_eq_true hb
          have hfr : φ H.size = none := hf _ (Nat.le_refl _) (by simp [Heap.size_push])
          have hrun := run_app_grow (P := P) (w := w) (ty := ty) (n := 0) (c := 0) (base := none) (old := []) ht hi hsz hz ht' hlo hfc (fun w2 _ => by simp [Builtin.firstCells]) (by omega) (by simpa [hby, room] using hb) (by omega)
          simp only [Nat.zero_add, List.nil_append] at hrun
          have hge := grownCap_ge w m 0 el
          obtain ⟨r1, r2⟩ := hr.push (w' := w.drew.alloc (.cells (cs'.toArray ++ Builtin.zeroCells z.cells (grownCap w m 0 el - m)) el)) hfr es true (some el) (fun _ t e => by cases e; rfl) hl rfl (fun i v' hv => by
            have := (List.getElem?_eq_some_iff.1 hv).1
            rw [Array.getElem?_append_left (by simpa using this)]; simpa using hv) (fun _ => rfl) rfl rfl rfl
          refine ⟨_, _, _, hrun, ⟨rfl, _, _, _, ext_at _ _ _, rfl, Nat.le_refl _, hge, ?_, ?_, fun _ => by simp, .inr ?_⟩, r1, r2⟩
          · simp [hlen]
          · simp [size_zeroCells, hzs, hl', ← Nat.add_mul]
            rw [Nat.add_sub_cancel' hge]
            exact Nat.le_refl _
          · simp [hlen]
    · rename_i b off n c
      obtain ⟨_, p, c', a', hp, rfl, q1, q2, q3, q4, q5, q6⟩ := hs
      simp only [beq_eq] at h
      by_cases hm : m = 0
      · rw [decide_eq_true hm, cond_true] at h
        cases h
        subst hm
        have hrun := run_app_room (P := P) (w := w) (ty := ty) (base := some a') ht hi hsz ht' hlo hfc (show n + 0 ≤ c' by omega)
        rw [nothing rfl] at hrun
        simp only [storeCells, Sem.run_pure, Result.andThen_ok] at hrun
        exact ⟨_, w, φ, hrun, ⟨rfl, p, c', a', hp, rfl, q1, q2, q3, q4, q5, q6⟩, hr, Step.refl _ _ _⟩
      · rw [decide_eq_false hm, cond_false] at h
        cases hb : Nat.ble (n + m) c with
        | true =>
          rw [hb, cond_true] at h
          have hb := Nat.le_of_ble_eq_true hb
          split at h <;> cases h
          rename_i hst
          obtain ⟨p', w', hp', e1, r1, r2⟩ := hr.store (P := P) hst hl
          rw [hp] at hp'
          cases hp'
          have hrun := run_app_room (P := P) (w := w) (ty := ty) (base := some a') ht hi hsz ht' hlo hfc (show n + m ≤ c' by omega)
          have ha := q5 (by omega)
          subst ha
          simp only [add_at, Nat.add_assoc] at hrun e1
          rw [e1, Result.andThen_ok] at hrun
          exact ⟨_, w', φ, hrun, ⟨rfl, p, c', _, hp, rfl, hb, q2, q3, q4, fun _ => rfl, q6⟩, r1, r2⟩
        | false =>
          rw [hb, cond_false] at h
          have hb : ¬ n + m ≤ c := fun e => by rw [Nat.ble_eq_true_of_le e] at hb; cases hb
          cases hb2 : Nat.ble ((n + m) * bytes) room with
          | false => rw [hb2] at h; cases h
          | true =>
            rw [hb2, cond_true] at h
            have hb2 : (n + m) * bytes ≤ 140737488355328 := Nat.le_of_ble_eq_true hb2
            split at h
            · cases h
            · rename_i row hrow
              obtain ⟨p', hp', rr⟩ := hr.row b row hrow
              rw [hp] at hp'
              cases hp'
              by_cases hold : ((row.cells.drop off).take (n * es)).length = n * es ∧ row.es = es
              · rw [decide_eq_true hold.1, decide_eq_true hold.2, Bool.and_self, cond_true] at h
                obtain ⟨ho1, ho2⟩ := hold
                have hpe : p.es = es := rr.es.trans ho2
                have hlr := rr.len
                have hfit : off + n * es ≤ row.cells.length := by
                  have h9 : n * es ≤ c * es := Nat.mul_le_mul_right _ q1
                  rw [hpe] at q3
                  omega
                -- the old cells, as the world has them
                have hld : H.loadN b off (n * es) = some ((row.cells.drop off).take (n * es)) := by
                  unfold Heap.loadN
                  rw [hrow]
                  simp only [beq_eq]
                  rw [decide_eq_true ho1, cond_true]
                obtain ⟨p'', hp'', _, old', hlo', hcell⟩ := hr.loadN hld
                rw [hp] at hp''
                cases hp''
                have holen : old'.length = n * es := by rw [← hlo'.length, ho1]
                have hofc : ∀ w2 : World, w2.heap = w.heap → (Builtin.firstCells es n (.slice (some a') n c')).run P w2 = .ok (List.toArray old') w2 := fun w2 e => by
                  rcases Nat.eq_zero_or_pos n with h0 | h0
                  · subst h0
                    have : old' = [] := List.eq_nil_of_length_eq_zero (by simpa using holen)
                    subst this
                    simp [Builtin.firstCells, loadCells, loadCellsFrom]
                  · rw [q5 (by omega)]
                    simp only [Builtin.firstCells]
                    rw [← holen]
                    exact run_loadCells_list w2 _ old' fun j v hj => by simpa [World.cell?, e] using hcell j v hj
                have hcl : cs.length = m * es := hlen
                -- a new row
                have fresh : ∀ kt : Option Nat, (∀ t, kt = some t → el = t) → c' < n + m → φ H.size = none → ∀ (H2 : Heap), Rel φ H2 w → H2.size = H.size → Step φ H w φ H2 w →
                    Yields' P φ H w (Builtin.append_ #[t, t'] ty #[.slice (some a') n c', x']) (.slice (some ⟨H.size, 0, none⟩) (n + m) (n + m)) (H2.push ⟨(row.cells.drop off).take (n * es) ++ cs, es, true, kt⟩) := by
                  intro kt hkt hlt hfr H2 hr2 hs2 hst2
                  have hrun := run_app_grow (P := P) (w := w) (ty := ty) (base := some a') ht hi hsz hz ht' hlo hfc hofc hlt (by rw [hby]; exact hb2) (by omega)
                  have hge := grownCap_ge w (n + m) c' el
                  obtain ⟨r1, r2⟩ := hr2.push (w' := w.drew.alloc (.cells ((old' ++ cs').toArray ++ Builtin.zeroCells z.cells (grownCap w (n + m) c' el - (n + m))) el)) (by rw [hs2]; exact hfr) es true kt (fun _ => hkt) (hlo'.append hl) rfl (fun i v' hv => by
                    have := (List.getElem?_eq_some_iff.1 hv).1
                    rw [Array.getElem?_append_left (by simpa using this)]; simpa using hv) (fun _ => rfl) rfl rfl rfl
                  refine ⟨_, _, _, hrun, ⟨rfl, _, _, _, by rw [hs2]; exact ext_at _ _ _, rfl, Nat.le_refl _, hge, ?_, ?_, fun _ => by simp, .inr ?_⟩, r1, hst2.trans r2⟩
                  · simp only [List.length_append, ho1, hcl, ← Nat.add_mul, Nat.zero_add]; exact Nat.le_refl _
                  · simp only [Array.size_append, List.size_toArray, List.length_append, holen, hl', size_zeroCells, hzs, ← Nat.add_mul, Nat.zero_add]
                    rw [Nat.add_sub_cancel' hge]
                    exact Nat.le_refl _
                  · simp only [List.length_append, ho1, hcl, ← Nat.add_mul, Nat.zero_add]
                cases hb3 : Nat.blt (off + c * es) row.cells.length with
                | true =>
                  rw [hb3, cond_true] at h
                  cases h
                  have hb3 : off + c * es < row.cells.length := Nat.le_of_ble_eq_true hb3
                  have hcc : c' = c := by
                    rcases q6 with q6 | q6
                    · exact q6
                    · rw [hpe] at q6; omega
                  exact fresh _ (fun t e => (keepTy_spec e).2.1.symm) (by omega) (hf _ (Nat.le_refl _) (by simp [Heap.size_push])) H hr rfl (Step.refl _ _ _)
                | false =>
                  rw [hb3, cond_false] at h
                  cases hown : row.own with
                  | false => rw [hown] at h; cases h
                  | true =>
                    rw [hown, cond_true] at h
                    cases h
                    have hfr : φ H.size = none := hf _ (Nat.le_refl _) (by simp [Heap.size_push, Heap.size_set])
                    by_cases hroom : n + m ≤ c'
                    · have hrm : off + n * es + cs.length ≤ p.n := by
                        have h9 : (n + m) * es ≤ c' * es := Nat.mul_le_mul_right _ hroom
                        rw [hpe] at q4
                        rw [hcl]
                        rw [Nat.add_mul] at h9
                        omega
                      obtain ⟨w', e1, r1, r2⟩ := hr.grow (P := P) (es := es) hfr hrow hp hown hfit hl hrm (keepTy el off row.ty) (fun t e => ⟨(keepTy_spec e).1, (keepTy_spec e).2.2⟩)
                      have hrun := run_app_room (P := P) (w := w) (ty := ty) (base := some a') ht hi hsz ht' hlo hfc hroom
                      have ha := q5 (by omega)
                      subst ha
                      simp only [add_at, Nat.add_assoc] at hrun e1
                      rw [e1, Result.andThen_ok] at hrun
                      refine ⟨_, w', _, hrun, ⟨rfl, _, _, _, ext_at _ _ _, rfl, Nat.le_refl _, hroom, ?_, ?_, fun _ => by simp, .inr ?_⟩, r1, r2⟩
                      · simp [hcl, Nat.add_mul]
                      · rw [hpe] at q4
                        simp
                        omega
                      · simp [hcl, Nat.add_mul]
                    · obtain ⟨k1, k2⟩ := hr.kill b
                      exact fresh _ (fun t e => (keepTy_spec e).2.1.symm) (by omega) hfr (H.set b none) k1 (Heap.size_set _ _ _) k2
              · have : (decide (((row.cells.drop off).take (n * es)).length = n * es) && decide (row.es = es)) = false := by
                  rw [Bool.and_eq_false_iff]
                  by_cases h1 : ((row.cells.drop off).take (n * es)).length = n * es
                  · right; exact decide_eq_false fun e => hold ⟨h1, e⟩
                  · left; exact decide_eq_false h1
                rw [this] at h
                cases h
    · cases h

end Go.Proofs.Ytnjmdkecpadehaa.M

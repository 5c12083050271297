/- The framework N, fourth text: loads. Conditions: as the laws say. -/
import Derived.Test.YtnjmdkecpadehaaN3
set_option linter.all false
set_option linter.unusedSimpArgs false
namespace Go.Proofs.Ytnjmdkecpadehaa.M

theorem N0.same {φ : NPhi} {V : View} {x : NV} {u : Value} (h : N0 φ V x u) : sameVal u u = true := by
  cases x with
  | v y =>
    obtain ⟨rfl, hf⟩ := (show _ ∧ _ from h)
    unfold flatV at hf
    split at hf <;> first
      | (simp [sameVal]; done)
      | cases hf
  | nils => rw [show u = _ from h]; simp [sameVal]
  | emp w => obtain ⟨b, off, row, rfl, _⟩ := (h : ∃ b off row, u = .slice (some ⟨b, off, none⟩) 0 0 ∧ V b = some row ∧ row.es = w ∧ off < row.cells.length); simp [sameVal]
  | fsl s l =>
    obtain ⟨cells, k, _⟩ := N3.fsl (φ := φ) (show N3 φ V (.fsl s l) u from h)
    rcases k with ⟨_, _, a, rfl, _⟩ | ⟨b, off, c, row, rfl, _⟩ <;> simp [sameVal]
  | sl r i n c => rcases N3.sl (φ := φ) (show N3 φ V (.sl r i n c) u from h) with ⟨_, _, _, _, rfl⟩ | ⟨b, w, _, rfl⟩ <;> simp [sameVal]
  | ptr r i o => obtain ⟨b, w, _, rfl⟩ := N3.ptr (φ := φ) (show N3 φ V (.ptr r i o) u from h); simp [sameVal]
  | fptr s l i o => obtain ⟨_, _, _, _, _, _, _, _, _, rfl⟩ := N3.fptr (φ := φ) (show N3 φ V (.fptr s l i o) u from h); simp [sameVal]
  | agg => exact h.elim
  | tup => exact h.elim
  | fn => exact h.elim
theorem L2.same {φ : NPhi} {V : View} : ∀ {x : List NV} {u : List Value}, L2 (N0 φ V) x u → sameVals u u = true
  | [], [], _ => rfl
  | a :: x, b :: u, h => by simp only [sameVals, N0.same h.1, L2.same h.2, Bool.and_self]
  | [], _ :: _, h => h.elim
  | _ :: _, [], h => h.elim
inductive LTag where
  | frz
  | own (r : Nat)
  | bad
/-- What a load looks at. -/
def ntag (e : NEnv) : I → Option LTag
  | .load _ _ a => match nev e a with
    | some (.ptr r _ _) => some (.own r)
    | some (.fptr _ _ _ _) => some .frz
    | _ => none
  | .slc _ x _ _ _ => match nev e x with
    | some (.sl r _ _ c) => if c = 0 then none else some (.own r)
    | some (.fsl _ _) => some .frz
    | _ => none
  | _ => none
/-- How what M looks at stands to it. -/
def TagR (φ : NPhi) (V : View) (h : NHeap) (b : Nat) : Option LTag → Prop
  | none => False
  | some .frz => ∃ row, V b = some row
  | some (.own r) => ∃ w, φ r = some (.at b w) ∧ h.get r ≠ none
  | some .bad => False
section
variable {φ : NPhi} {V : View} {e : NEnv} {em : Env}
theorem SimH.row_at {K : View} {h : NHeap} {H : Heap} (sim : SimH φ V K h H) {r b w : Nat} {row : NRow} (hg : h.get r = some row) (hp : φ r = some (.at b w)) : w = row.w ∧ NRowR φ V H row b ∧ K b = none := by
  rcases sim.rows r row hg with ⟨p, _⟩ | ⟨b', p, k1, k2⟩
  · rw [hp] at p; cases p
  · rw [hp] at p; cases p; exact ⟨rfl, k1, k2⟩
theorem NRowR.part {H : Heap} {row : NRow} {b : Nat} (k : NRowR φ V H row b) {i o n : Nat} {el : List NV} (he : row.els[i]? = some el) (hn : ((el.drop o).take n).length = n) :
    ∃ cs es, H.loadN b (i * row.w + o) n = some cs ∧ L2 (N0 φ V) ((el.drop o).take n) cs ∧ peekAt H (b, i * row.w + o, n) = some (cs, es) := by
  obtain ⟨cells, ty, h1, h2, h3, h4⟩ := k
  have hel : el.length = row.w := h3 el (List.mem_of_getElem? he)
  have key : L2 (N0 φ V) ((el.drop o).take n) ((cells.drop (i * row.w + o)).take n) := by
    rcases Nat.eq_zero_or_pos n with h0 | h0
    · subst h0; simp [L2]
    · have hon : o + n ≤ row.w := by
        rw [List.length_take, List.length_drop] at hn
        omega
      rw [← flatten_at h3 he hon]
      exact (h2.drop _).take _
  have hl := key.length
  have hld : H.loadN b (i * row.w + o) n = some ((cells.drop (i * row.w + o)).take n) := by
    rw [loadN_of h1, if_pos (by rw [← hl, hn])]
  exact ⟨_, row.es, hld, key, by simp only [peekAt, h1, hld]⟩
theorem N3.fpart {K : View} {h : NHeap} {H : Heap} (sim : SimH φ V K h H) {s : Sh} {l : List (Dat s)} {i o n : Nat} {u : Value} (k : N3 φ V (.fptr s l i o) u) {x : Dat s} (hx : l[i]? = some x) (hn : (((cellsN s x).drop o).take n).length = n) :
    ∃ b off cs es, u = .pointer (some ⟨b, off, none⟩) ∧ H.loadN b off n = some cs ∧ L2 (N0 φ V) (((cellsN s x).drop o).take n) cs ∧ peekAt H (b, off, n) = some (cs, es) ∧ ∃ row, V b = some row := by
  obtain ⟨h0, b, off, cells, row, q1, q2, q3, q4, rfl⟩ := k.fptr
  have hH : H.get b = some row := sim.kh _ _ (sim.vk _ _ q1)
  have hat := q4.at_ (fun _ _ h => RdF.length h) i h0
  have hxe : l[i] = x := by rw [List.getElem?_eq_some_iff] at hx; exact hx.2
  rw [hxe] at hat
  have hl2 := ((hat.l2 (φ := φ)).drop o).take n
  have hcl := cellsN_length s x
  have key : L2 (N0 φ V) (((cellsN s x).drop o).take n) ((row.cells.drop (off + i * s.width + o)).take n) := by
    rcases Nat.eq_zero_or_pos n with h1 | h1
    · subst h1; simp [L2]
    · have hon : o + n ≤ s.width := by
        rw [List.length_take, List.length_drop] at hn
        omega
      have hiw : (i + 1) * s.width ≤ List.length l * s.width := Nat.mul_le_mul_right _ h0
      rw [Nat.add_mul] at hiw
      have e1 : (List.drop o (List.take s.width (List.drop (i * s.width) cells))).take n = (row.cells.drop (off + i * s.width + o)).take n := by
        rw [q3, List.drop_take, List.take_take, List.drop_drop, List.drop_take, List.take_take, List.drop_drop]
        congr 1
        · omega
        · congr 1
          omega
      rw [← e1]
      exact hl2
  have hl := key.length
  have hld : H.loadN b (off + i * s.width + o) n = some ((row.cells.drop (off + i * s.width + o)).take n) := by
    rw [loadN_of hH, if_pos (by rw [← hl, hn])]
  exact ⟨b, _, _, row.es, rfl, hld, key, by simp only [peekAt, hH, hld], row, q1⟩
theorem nout_sound {h h' : NHeap} {agg : Bool} {n : Nat} {cs : List NV} {us : List Value} {x : NV} (hr : nout h agg n cs = some (x, h')) (k : L2 (N0 φ V) cs us) (H : Heap) :
    h' = h ∧ cs.length = n ∧ ∃ u, (bif agg then some (Value.agg us.toArray, H) else match us with
        | [v] => some (v, H)
        | _ => none) = some (u, H) ∧ N3 φ V x u := by
  unfold nout at hr
  split at hr
  · rename_i hlen
    split at hr
    · cases hr
      exact ⟨rfl, hlen, _, rfl, N3.mk_agg k⟩
    · cases hr
      obtain ⟨b, y, rfl, k1, k2⟩ := k.cons_left
      obtain rfl := k2.nil_left
      exact ⟨rfl, hlen, b, rfl, .of0 k1⟩
    · cases hr
  · cases hr
theorem bound_mono {x : Option NV} {u : Option Value} {y c d k : Nat} (h : nbound x y d = some k) (hx : NOR φ V x u) (hy : y ≤ c) : bound u c d = some k := by
  have := nbound_sound h hx
  unfold bound at this ⊢
  split at this
  · exact this
  · split at this <;> cases this
    rename_i hh
    rw [if_pos ⟨hh.1, by omega⟩]
  · cases this
theorem nbound_le {x : Option NV} {y d k : Nat} (h : nbound x y d = some k) : k ≤ max y d := by
  unfold nbound at h
  split at h
  · cases h; omega
  · split at h <;> cases h
    rename_i hh
    have := hh.1
    have := hh.2
    omega
  · cases h
theorem nbnd_le {lo hi top : Option NV} {n c : Nat} {q : Nat × Nat × Nat} (k : nbnd lo hi top n c = some q) : q.2.2 ≤ c ∧ q.1 ≤ q.2.1 ∧ (n ≤ q.2.2 → q.2.1 ≤ q.2.2) := by
  unfold nbnd at k
  split at k
  · cases k
  · rename_i e1
    split at k
    · cases k
    · rename_i e2
      split at k
      · cases k
      · rename_i e3
        cases k
        have := nbound_le e1
        have := nbound_le e2
        have := nbound_le e3
        simp only at *
        omega
theorem L2.one {α β : Type} {Q : α → β → Prop} {a : α} {b : β} (h : Q a b) : L2 Q [a] [b] := ⟨h, trivial⟩
theorem ArrF.part {V : View} {v : Value} {n w : Nat} {cells : List Value} {b off c : Nat} {row : Row} (q1 : V b = some row) (q2 : row.es = w) (q4 : off + n * w ≤ row.cells.length) (q5 : cells = (row.cells.drop off).take (n * w)) {lo hi c' : Nat} (h1 : lo ≤ hi) (h2 : hi ≤ n) (h3 : hi - lo ≤ c') :
    ArrF V (.slice (some ⟨b, off + lo * w, none⟩) (hi - lo) c') (hi - lo) w ((cells.drop (lo * w)).take ((hi - lo) * w)) := by
  refine .inr ⟨b, off + lo * w, c', row, rfl, q1, q2, h3, ?_, ?_⟩
  · have := Nat.mul_le_mul_right w h2
    have : lo * w + (hi - lo) * w = hi * w := by rw [← Nat.add_mul]; congr 1; omega
    omega
  · have := Nat.mul_le_mul_right w h2
    have : lo * w + (hi - lo) * w = hi * w := by rw [← Nat.add_mul]; congr 1; omega
    rw [q5, List.drop_take, List.take_take, List.drop_drop]
    congr 1
    omega
theorem DenL.take {α : Type} {D : α → List Value → Prop} {w : Nat} (h : ∀ x cs, D x cs → cs.length = w) : ∀ {l : List α} {cs : List Value} (k : Nat), DenL D l cs → DenL D (l.take k) (cs.take (k * w))
  | _, _, 0, _ => by simp [DenL]
  | [], cs, k + 1, hd => by rw [show cs = [] from hd]; simp [DenL]
  | x :: l, cs, k + 1, ⟨c1, c2, e, k1, k2⟩ => by
    subst e
    have h1 := h _ _ k1
    refine ⟨c1, c2.take (k * w), ?_, k1, DenL.take h k k2⟩
    rw [Nat.add_mul, Nat.one_mul, List.take_append, h1, Nat.add_sub_cancel, List.take_of_length_le (by omega)]
theorem DenL.drop {α : Type} {D : α → List Value → Prop} {w : Nat} (h : ∀ x cs, D x cs → cs.length = w) : ∀ {l : List α} {cs : List Value} (k : Nat), DenL D l cs → DenL D (l.drop k) (cs.drop (k * w))
  | _, _, 0, hd => by simpa using hd
  | [], cs, k + 1, hd => by rw [show cs = [] from hd]; simp [DenL]
  | x :: l, cs, k + 1, ⟨c1, c2, e, k1, k2⟩ => by
    subst e
    have h1 := h _ _ k1
    have := DenL.drop h k k2
    have e9 : (c1 ++ c2).drop w = c2 := by
      rw [List.drop_append, h1, Nat.sub_self, List.drop_zero, List.drop_of_length_le (by omega), List.nil_append]
    rw [List.drop_succ_cons, Nat.add_mul, Nat.one_mul, Nat.add_comm, ← List.drop_drop, e9]
    exact this
/-- Loads. -/
theorem nload_sound (he : EN φ V e em) {h h' : NHeap} {K : View} {H : Heap} (sim : SimH φ V K h H) {i : I} (hc : i.cls = .load) {x : NV} (hr : nrun e h i = some (x, h')) :
    h' = h ∧ ∃ u, i.run noCall em H = some (u, H) ∧ N3 φ V x u ∧ ∀ p, i.peek em = some p → TagR φ V h p.1 (ntag e i) ∧ ∃ ce, peekAt H p = some ce ∧ sameVals ce.1 ce.1 = true := by
  cases i <;> try (cases hc; done)
  case load agg n a =>
    simp only [nrun] at hr
    cases hy : nev e a with
    | none => rw [hy] at hr; cases hr
    | some v =>
      obtain ⟨u, e1, k1⟩ := nev_sound he hy
      rw [hy] at hr
      simp only [nap1] at hr
      unfold nload at hr
      split at hr
      · rename_i r i o
        cases hg : h.get r with
        | none => rw [hg] at hr; cases hr
        | some row =>
          rw [hg] at hr
          simp only [nelR] at hr
          cases hel : row.els[i]? with
          | none => rw [hel] at hr; cases hr
          | some el =>
            rw [hel] at hr
            simp only [nelO] at hr
            obtain ⟨b, w, p, rfl⟩ := k1.ptr
            obtain ⟨rfl, kr, _⟩ := sim.row_at hg p
            have hlen : ((el.drop o).take n).length = n := by
              unfold nout at hr
              split at hr
              · assumption
              · cases hr
            obtain ⟨cs, es, q1, q2, q3⟩ := kr.part hel hlen
            obtain ⟨rfl, _, u, q4, q5⟩ := nout_sound hr q2 H
            refine ⟨rfl, u, by simp only [I.run, e1, q1]; exact q4, q5, fun p' hp' => ?_⟩
            simp only [I.peek, e1] at hp'
            cases hp'
            exact ⟨by simp only [ntag, hy]; exact ⟨_, p, by rw [hg]; exact fun e => by cases e⟩, _, q3, q2.same⟩
      · rename_i s l i o
        cases hx : l[i]? with
        | none => rw [hx] at hr; cases hr
        | some y =>
          rw [hx] at hr
          simp only [nelF] at hr
          have hlen : (((cellsN s y).drop o).take n).length = n := by
            unfold nout at hr
            split at hr
            · assumption
            · cases hr
          obtain ⟨b, off, cs, es, rfl, q1, q2, q3, q6⟩ := k1.fpart sim hx hlen
          obtain ⟨rfl, _, u, q4, q5⟩ := nout_sound hr q2 H
          refine ⟨rfl, u, by simp only [I.run, e1, q1]; exact q4, q5, fun p' hp' => ?_⟩
          simp only [I.peek, e1] at hp'
          cases hp'
          exact ⟨by simp only [ntag, hy]; exact q6, _, q3, q2.same⟩
      · cases hr
  case slc es y lo hi top =>
    simp only [nrun] at hr
    unfold nslc at hr
    split at hr
    · rename_i r i n c lo' hi' top' hy hl hh ht
      obtain ⟨u, e1, k1⟩ := nev_sound he hy
      obtain ⟨ul, e2, k2⟩ := nevo_sound he hl
      obtain ⟨uh, e3, k3⟩ := nevo_sound he hh
      obtain ⟨ut, e4, k4⟩ := nevo_sound he ht
      cases hb : nbnd lo' hi' top' n c with
      | none => rw [hb] at hr; cases hr
      | some q =>
        rw [hb] at hr
        obtain ⟨b1, b2, b3⟩ := nbnd_sound hb k2 k3 k4
        obtain ⟨q1, q2, q3⟩ := q
        simp only at b1 b2 b3
        simp only [nslB] at hr
        split at hr
        · rename_i hc0
          subst hc0
          cases hr
          rcases k1.sl with ⟨p, rfl, rfl, _, rfl⟩ | ⟨b, w, p, rfl⟩
          · refine ⟨rfl, .slice none 0 0, ?_, .inl ⟨p, rfl, rfl, rfl, rfl⟩, fun p' hp' => ?_⟩
            · simp only [I.run, e1, e2, e3, e4, b1, b2, b3]; rfl
            · simp only [I.peek, e1] at hp'; cases hp'
          · refine ⟨rfl, .slice (some ⟨b, i * w, none⟩) 0 0, ?_, .inr ⟨b, w, p, rfl⟩, fun p' hp' => ?_⟩
            · simp only [I.run, e1, e2, e3, e4, b1, b2, b3]; rfl
            · simp only [I.peek, e1] at hp'; cases hp'
        · rename_i hc0
          split at hr
          · rename_i row hg
            split at hr <;> cases hr
            rename_i hes
            obtain ⟨hes1, hes2⟩ := hes
            rcases k1.sl with ⟨_, _, _, rfl, _⟩ | ⟨b, w, p, rfl⟩
            · exact absurd rfl hc0
            · obtain ⟨rfl, kr, _⟩ := sim.row_at hg p
              obtain ⟨cells, ty, g1, g2, g3, g4⟩ := kr
              have hcz : Nat.beq c 0 = false := by rw [beq_eq]; simpa using hc0
              have hpk : peekAt H (b, 0, 0) = some ([], row.es) := by
                simp only [peekAt, g1, loadN_of g1]
                simp
              refine ⟨rfl, .slice (some ⟨b, i * row.w + q1 * es, none⟩) (q2 - q1) (q3 - q1), ?_, .inr ⟨b, row.w, p, by rw [hes2, Nat.add_mul]⟩, fun p' hp' => ?_⟩
              · simp only [I.run, e1, e2, e3, e4, b1, b2, b3, hcz, cond_false, g1, hes1, beq_eq, decide_true, cond_true]
              · simp only [I.peek, e1, hcz, cond_false] at hp'
                cases hp'
                exact ⟨by simp only [ntag, hy, if_neg hc0]; exact ⟨_, p, by rw [hg]; exact fun e => by cases e⟩, _, hpk, rfl⟩
          · cases hr
    · rename_i s l lo' hi' top' hy hl hh ht
      obtain ⟨u, e1, k1⟩ := nev_sound he hy
      obtain ⟨ul, e2, k2⟩ := nevo_sound he hl
      obtain ⟨uh, e3, k3⟩ := nevo_sound he hh
      obtain ⟨ut, e4, k4⟩ := nevo_sound he ht
      split at hr
      · rename_i hes
        subst hes
        cases hb : nbndF lo' hi' top' (List.length l) with
        | none => rw [hb] at hr; cases hr
        | some q =>
          rw [hb] at hr
          obtain ⟨q1, q2, q3⟩ := q
          obtain ⟨cells, ha, hd⟩ := k1.fsl
          -- the bounds over M's room
          have hbm : ∀ c, List.length l ≤ c → ∃ m, bound ut c c = some m ∧ bound uh m (List.length l) = some q2 ∧ bound ul q2 0 = some q1 ∧ q1 ≤ q2 ∧ q2 ≤ List.length l ∧ (q3 = none → m = c) ∧ (∀ t, q3 = some t → m = t ∧ t ≤ List.length l) := by
            intro c hcl
            unfold nbndF at hb
            split at hb
            · have hut : ut = none := by cases ut with
                | none => rfl
                | some _ => exact k4.elim
              split at hb
              · cases hb
              · rename_i e5
                split at hb <;> cases hb
                rename_i e6
                have := nbound_le e5
                have := nbound_le e6
                exact ⟨c, by rw [hut]; rfl, bound_mono e5 k3 hcl, bound_mono e6 k2 (Nat.le_refl _), by omega, by omega, fun _ => rfl, fun t ht => by cases ht⟩
            · split at hb
              · cases hb
              · rename_i t e5
                split at hb
                · cases hb
                · rename_i e6
                  split at hb <;> cases hb
                  rename_i e7
                  have a1 := nbound_le e5
                  have a2 := nbound_le e6
                  have a3 := nbound_le e7
                  have b5 : bound ut c c = some t := by
                    have := nbound_sound e5 k4
                    unfold bound at this ⊢
                    split at this
                    · exact k4.elim
                    · split at this <;> cases this
                      rename_i hh2
                      rw [if_pos ⟨hh2.1, by omega⟩]
                    · cases this
                  exact ⟨t, b5, nbound_sound e6 k3, nbound_sound e7 k2, by omega, by omega, fun hn => (by cases hn), fun t' ht' => (by cases ht'; exact ⟨rfl, by omega⟩)⟩
          rcases ha with ⟨h0, h00, a, rfl, ha⟩ | ⟨b, off, c, row, rfl, g1, g2, g3, g4, g5⟩
          · obtain ⟨m, b1, b2, b3, b4, b5, b6, b7⟩ := hbm 0 (by omega)
            rw [h0] at b2
            have hln : l = [] := List.eq_nil_of_length_eq_zero h0
            have hx : h' = h ∧ x = .fsl s [] := by
              subst hln
              simp only [nfslB] at hr
              split at hr
              · rename_i hh; cases hh; cases hr; simp
              · rename_i hh
                cases hh
                split at hr
                · split at hr
                  · rename_i hh2; exact absurd rfl hh2.2.1
                  · cases hr; simp
                · cases hr
              · rename_i hh; cases hh
            obtain ⟨rfl, rfl⟩ := hx
            refine ⟨rfl, .slice a 0 0, ?_, ⟨.slice a 0 0, [], rfl, .inl ⟨rfl, rfl, a, rfl, ha⟩, rfl⟩, fun p' hp' => ?_⟩
            · simp only [I.run, e1, e2, e3, e4, b1, b2, b3]
              cases a with
              | none => rfl
              | some a =>
                obtain ⟨b, off, sp⟩ := a
                obtain rfl : sp = none := ha _ rfl
                rfl
            · simp only [I.peek, e1] at hp'
              cases a with
              | none => cases hp'
              | some a =>
                obtain ⟨b, off, sp⟩ := a
                obtain rfl : sp = none := ha _ rfl
                cases hp'
          · obtain ⟨m, b1, b2, b3, b4, b5, b6, b7⟩ := hbm c g3
            have hH : H.get b = some row := sim.kh _ _ (sim.vk _ _ g1)
            have hpk : peekAt H (b, 0, 0) = some ([], row.es) := by
              simp only [peekAt, hH, loadN_of hH]
              simp
            have hpe : ∀ p', (I.slc s.width y lo hi top).peek em = some p' → TagR φ V h p'.1 (ntag e (I.slc s.width y lo hi top)) ∧ ∃ ce, peekAt H p' = some ce ∧ sameVals ce.1 ce.1 = true := fun p' hp' => by
              simp only [I.peek, e1] at hp'
              cases hcz : Nat.beq c 0 with
              | true => rw [hcz] at hp'; cases hp'
              | false =>
                rw [hcz] at hp'
                cases hp'
                exact ⟨by simp only [ntag, hy]; exact ⟨row, g1⟩, _, hpk, rfl⟩
            have hrun : ∃ c2, (I.slc s.width y lo hi top).run noCall em H = some (.slice (some ⟨b, off + q1 * s.width, none⟩) (q2 - q1) c2, H) ∧ q2 - q1 ≤ m - q1 + (q2 - m) ∧ (c2 = m - q1) := by
              cases hcz : Nat.beq c 0 with
              | true =>
                rw [beq_eq, decide_eq_true_eq] at hcz
                subst hcz
                have hm0 : m = 0 := by
                  have := bound_le b1
                  omega
                have z2 : q2 = 0 := by omega
                have z1 : q1 = 0 := by omega
                subst z2 z1 hm0
                exact ⟨0, by simp only [I.run, e1, e2, e3, e4, b1, b2, b3, beq_eq, decide_true, cond_true, Nat.zero_mul, Nat.add_zero, Nat.sub_zero], by omega, rfl⟩
              | false =>
                exact ⟨m - q1, by simp only [I.run, e1, e2, e3, e4, b1, b2, b3, hcz, cond_false, hH, g2, beq_eq, decide_true, cond_true], by omega, rfl⟩
            obtain ⟨c2, hrun, _, hc2⟩ := hrun
            have hden : DenL (RdF V s) ((l.take q2).drop q1) ((cells.drop (q1 * s.width)).take ((q2 - q1) * s.width)) := by
              have := ((hd.take (fun _ _ h => RdF.length h) q2).drop (fun _ _ h => RdF.length h) q1)
              have e9 : List.drop (q1 * s.width) (List.take (q2 * s.width) cells) = List.take ((q2 - q1) * s.width) (List.drop (q1 * s.width) cells) := by
                rw [List.drop_take, ← Nat.sub_mul]
              rw [e9] at this
              exact this
            have hlen : ((l.take q2).drop q1).length = q2 - q1 := by rw [List.length_drop, List.length_take]; omega
            have hfsl : q2 ≤ m → N3 φ V (.fsl s ((l.take q2).drop q1)) (.slice (some ⟨b, off + q1 * s.width, none⟩) (q2 - q1) c2) := fun hqm => by
              refine ⟨_, _, rfl, ?_, hden⟩
              rw [hlen]
              exact ArrF.part (v := .slice none 0 0) (c := 0) g1 g2 g4 g5 b4 b5 (by omega)
            simp only [nfslB] at hr
            split at hr
            · rename_i hh
              cases hh
              cases hr
              have := b6 rfl
              exact ⟨rfl, _, hrun, hfsl (by omega), hpe⟩
            · rename_i lo2 hi2 t hh
              cases hh
              obtain ⟨rfl, b8⟩ := b7 _ rfl
              split at hr
              · rename_i hqm
                split at hr
                · rename_i hh2
                  obtain ⟨rfl, hne, hwp⟩ := hh2
                  cases hr
                  have z2 : q2 = 0 := by omega
                  have z1 : q1 = 0 := by omega
                  subst z2 z1
                  subst hc2
                  refine ⟨rfl, _, hrun, ⟨b, off, row, by simp, g1, g2, ?_⟩, hpe⟩
                  have : 0 < List.length l := List.length_pos_iff.2 hne
                  have := Nat.mul_lt_mul_of_pos_right this hwp
                  omega
                · cases hr
                  exact ⟨rfl, _, hrun, hfsl hqm, hpe⟩
              · cases hr
            · rename_i hh; cases hh
      · cases hr
    · rename_i lo' hi' top' hy hl hh ht
      obtain ⟨u, e1, k1⟩ := nev_sound he hy
      obtain ⟨ul, e2, k2⟩ := nevo_sound he hl
      obtain ⟨uh, e3, k3⟩ := nevo_sound he hh
      obtain ⟨ut, e4, k4⟩ := nevo_sound he ht
      cases hb : nbnd lo' hi' top' 0 0 with
      | none => rw [hb] at hr; cases hr
      | some q =>
        rw [hb] at hr
        cases hr
        obtain ⟨b1, b2, b3⟩ := nbnd_sound hb k2 k3 k4
        obtain rfl := k1.nils
        refine ⟨rfl, .slice none 0 0, by simp only [I.run, e1, e2, e3, e4, b1, b2, b3]; rfl, rfl, fun p' hp' => ?_⟩
        simp only [I.peek, e1] at hp'
        cases hp'
    · rename_i w lo' hi' top' hy hl hh ht
      obtain ⟨u, e1, k1⟩ := nev_sound he hy
      obtain ⟨ul, e2, k2⟩ := nevo_sound he hl
      obtain ⟨uh, e3, k3⟩ := nevo_sound he hh
      obtain ⟨ut, e4, k4⟩ := nevo_sound he ht
      cases hb : nbnd lo' hi' top' 0 0 with
      | none => rw [hb] at hr; cases hr
      | some q =>
        rw [hb] at hr
        cases hr
        obtain ⟨b1, b2, b3⟩ := nbnd_sound hb k2 k3 k4
        have k0 := k1
        obtain ⟨b, off, row, rfl, _⟩ := k1.emp
        refine ⟨rfl, .slice (some ⟨b, off, none⟩) 0 0, by simp only [I.run, e1, e2, e3, e4, b1, b2, b3]; rfl, k0, fun p' hp' => ?_⟩
        simp only [I.peek, e1] at hp'
        cases hp'
    · cases hr
end
end Go.Proofs.Ytnjmdkecpadehaa.M

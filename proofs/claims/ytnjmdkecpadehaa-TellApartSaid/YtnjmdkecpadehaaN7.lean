/- The framework N, seventh text: all operations that act. Conditions: as the laws say. -/
import Derived.Test.YtnjmdkecpadehaaN6
set_option linter.all false
set_option linter.unusedSimpArgs false
namespace Go.Proofs.Ytnjmdkecpadehaa.M

section
variable {φ : NPhi} {V K : View} {h h' : NHeap} {H : Heap} {e : NEnv} {em : Env}
theorem nstrS_eq {h h' : NHeap} {o : Option (List UInt8)} {x : NV} (hr : nstrS h o = some (x, h')) : ∃ l, o = some l ∧ x = .v (.string ⟨l.toArray⟩) ∧ h' = h := by
  unfold nstrS at hr
  split at hr <;> cases hr
  exact ⟨_, rfl, rfl, rfl⟩
theorem nact_sound (he : EN φ V e em) (sim : SimH φ V K h H) {i : I} (hc : i.cls = .act ∨ i.cls = .alloc) {x : NV} (hr : nrun e h i = some (x, h')) : Acts φ V K h H em i (ntouch e i) x h' := by
  cases i <;> try (rcases hc with hc | hc <;> cases hc; done)
  case call f xs => cases hr
  case callv f xs => cases hr
  case alloc es z =>
    simp only [nrun] at hr
    cases hz : nvCs z with
    | none => rw [hz] at hr; cases hr
    | some zc =>
      rw [hz] at hr
      cases hr
      exact acts_push sim (row := ⟨[zc], zc.length, es, true, some es⟩) (cells := z) (ty := some es) (by simpa using nvCs_sound hz) (by simp) (fun _ e => e) rfl (nrows_ptr _ _)
  case box n y =>
    simp only [nrun] at hr
    cases hy : nev e y with
    | none => rw [hy] at hr; cases hr
    | some v =>
      obtain ⟨u, e1, k1⟩ := nev_sound he hy
      rw [hy] at hr
      simp only [nap1, nbox] at hr
      cases hcs : ncells v with
      | none => rw [hcs] at hr; cases hr
      | some cs =>
        rw [hcs] at hr
        simp only [nboxC] at hr
        split at hr <;> cases hr
        rename_i hlen
        obtain ⟨us, e2, k2⟩ := ncells_sound k1 hcs
        have hl := k2.length
        rw [hlen] at hl
        refine acts_push sim (row := ⟨[cs], n, n, true, none⟩) (cells := us) (ty := none) (by simpa using k2) (by simpa using hlen) (fun _ e => e) ?_ (nrows_ptr _ _)
        simp only [I.run, e1, e2, beq_eq, hl.symm, decide_true, cond_true]
  case bsl es z m ps =>
    simp only [nrun] at hr
    cases hz : nvCs z with
    | none => rw [hz] at hr; cases hr
    | some zc =>
      cases hp : nevq e ps with
      | none => rw [hz, hp] at hr; cases hr
      | some vp =>
        rw [hz, hp] at hr
        simp only [nbsl] at hr
        split at hr
        · rename_i hzl
          cases hf : nfillE es vp (List.replicate m zc) with
          | none => rw [hf] at hr; cases hr
          | some els =>
            rw [hf] at hr
            cases hr
            obtain ⟨us, e1, k1⟩ := nevq_sound he es hp
            obtain ⟨vs, e2, k2, k3, k4⟩ := nfillE_sound k1 ((nvCs_sound hz).reps m) (fun el hel => by rw [List.eq_of_mem_replicate hel]; exact hzl) hf
            refine acts_push sim (row := ⟨els, es, es, true, none⟩) (cells := vs) (ty := none) k2 k3 (fun _ e => e) ?_ (nrows_sl _ _ _ _)
            simp only [I.run, e1, e2]
        · cases hr
  case store n a y =>
    simp only [nrun] at hr
    cases ha : nev e a with
    | none => rw [ha] at hr; cases hr
    | some va =>
      cases hy : nev e y with
      | none => rw [ha, hy] at hr; cases hr
      | some vy =>
        obtain ⟨ua, e1, k1⟩ := nev_sound he ha
        obtain ⟨uy, e2, k2⟩ := nev_sound he hy
        rw [ha, hy] at hr
        simp only [nap2] at hr
        unfold nstore at hr
        split at hr
        · rename_i r i o
          cases hg : h.get r with
          | none => rw [hg] at hr; cases hr
          | some row =>
            cases hcs : ncells vy with
            | none => rw [hg, hcs] at hr; cases hr
            | some cs =>
              rw [hg, hcs] at hr
              simp only [nstRow] at hr
              split at hr
              · rename_i hh
                obtain ⟨hn, hown⟩ := hh
                cases hel : row.els[i]? with
                | none => rw [hel] at hr; cases hr
                | some el =>
                  rw [hel] at hr
                  simp only [nstEl] at hr
                  split at hr <;> cases hr
                  rename_i hol
                  obtain ⟨b, w, p, rfl⟩ := k1.ptr
                  obtain ⟨rfl, ⟨cells, ty, g1, g2, g3, g4⟩, hk⟩ := sim.row_at hg p
                  have hellen : el.length = row.w := g3 el (List.mem_of_getElem? hel)
                  obtain ⟨us, e3, k3⟩ := ncells_sound k2 hcs
                  have hl := k3.length
                  have hcells : cells.length = row.els.length * row.w := by rw [← g2.length, flatten_len g3]
                  have hi : i < row.els.length := by rw [List.getElem?_eq_some_iff] at hel; exact hel.1
                  have hiw : (i + 1) * row.w ≤ row.els.length * row.w := Nat.mul_le_mul_right _ hi
                  rw [Nat.add_mul] at hiw
                  have hfl := flatten_set (cs := cs) (o := o) g3 hel (by omega)
                  have hst : H.storeN b (i * row.w + o) us = some (H.set b (some ⟨M.splice cells (i * row.w + o) us, row.es, row.own, ty⟩)) := by
                    simp only [Heap.storeN, g1, hown, Bool.true_and, cond_eq_ite, Nat.ble_eq]
                    rw [if_pos (by omega)]
                  refine ⟨φ, _, unit, ?_, sim.kill_ext _ _, sim.set hg p g1 (els := row.els.set i (nsplice el o cs)) (cells := M.splice cells (i * row.w + o) us) ?_ ?_, N3.unit, ?_⟩
                  · simp only [I.run, e1, e2, e3, beq_eq]
                    rw [decide_eq_true (by omega), cond_true, hst]
                  · rw [hfl]; exact g2.splice k3
                  · intro el' he'
                    rcases List.mem_or_eq_of_mem_set he' with h9 | h9
                    · exact g3 _ h9
                    · rw [h9, nsplice_length hol]; exact hellen
                  · simp only [ntouch, ha]
                    exact Rest.set sim hg p _ _
              · cases hr
        · cases hr
  case s2b y =>
    simp only [nrun] at hr
    cases hy : nev e y with
    | none => rw [hy] at hr; cases hr
    | some v =>
      obtain ⟨u, e1, k1⟩ := nev_sound he hy
      rw [hy] at hr
      simp only [nap1] at hr
      unfold ns2b at hr
      split at hr <;> cases hr
      rename_i s
      obtain ⟨rfl, _⟩ := k1.v
      refine acts_push sim (row := ⟨bytesN s, 1, 1, false, none⟩) (cells := bytesV s) (ty := none) (bytes_sound s) (bytes_w s) (fun _ e => e) ?_ (nrows_sl _ _ _ _)
      simp only [I.run, e1]
  case b2s y =>
    simp only [nrun] at hr
    cases hy : nev e y with
    | none => rw [hy] at hr; cases hr
    | some v =>
      obtain ⟨u, e1, k1⟩ := nev_sound he hy
      rw [hy] at hr
      simp only [nap1] at hr
      have same : ∀ u, I.run noCall em H (.b2s y) = some (u, H) → h' = h → N3 φ V x u → Acts φ V K h H em (.b2s y) (ntouch e (.b2s y)) x h' := fun u a b c => by
        subst b
        exact ⟨φ, H, u, a, Ext.refl _ _ _ _, sim, c, Rest.refl _⟩
      unfold nb2s at hr
      split at hr
      · cases hr
        obtain rfl := k1.nils
        exact same _ (by simp only [I.run, e1]) rfl (N3.mk_v rfl)
      · cases hr
        obtain ⟨b, off, row, rfl, g1, _⟩ := k1.emp
        have hH : H.get b = some row := sim.kh _ _ (sim.vk _ _ g1)
        exact same (.string ByteArray.empty) (by simp only [I.run, e1, loadN_of hH]; simp [strV]; rfl) rfl (N3.mk_v rfl)
      · rename_i r i n c
        cases hg : h.get r with
        | none => rw [hg] at hr; cases hr
        | some row =>
          rw [hg] at hr
          simp only [nb2sR] at hr
          split at hr
          · rename_i hh
            obtain ⟨hw, hin⟩ := hh
            obtain ⟨l, hl, rfl, rfl⟩ := nstrS_eq hr
            rcases k1.sl with ⟨p, rfl, rfl, _, rfl⟩ | ⟨b, w, p, rfl⟩
            · simp [nstr] at hl
              subst hl
              exact same (.string ByteArray.empty) (by simp only [I.run, e1]) rfl (N3.mk_v rfl)
            · obtain ⟨rfl, ⟨cells, ty, g1, g2, g3, g4⟩, _⟩ := sim.row_at hg p
              rw [hw] at g3
              have hfl : ((row.els.drop i).take n).flatten = (row.els.flatten.drop (i * 1)).take (n * 1) := by
                rw [flatten_drop i g3, flatten_take n (fun el he => g3 el (List.mem_of_mem_drop he))]
              have hl2 := (g2.drop (i * 1)).take (n * 1)
              rw [← hfl] at hl2
              have hlen := hl2.length
              rw [flatten_len (w := 1) (fun el he => g3 el (List.mem_of_mem_drop (List.mem_of_mem_take he))), List.length_take, List.length_drop, Nat.min_eq_left (by omega), Nat.mul_one, Nat.mul_one] at hlen
              rw [Nat.mul_one, Nat.mul_one] at hl2
              have hs := nstr_sound hl hl2
              exact same (.string ⟨l.toArray⟩) (by simp only [I.run, e1, hw, Nat.mul_one, loadN_of g1, ← hlen, if_true, hs]) rfl (N3.mk_v rfl)
          · cases hr
      · rename_i l
        cases hr
        obtain ⟨cells, ha, hd⟩ := k1.fsl
        have hcl : cells = l.map fun (n : Int) => Value.int .u8 n := by
          clear ha k1 e1 hy same
          induction l generalizing cells with
          | nil => exact hd
          | cons a l ih =>
            obtain ⟨c1, c2, e, g1, g2⟩ := hd
            rw [e, show c1 = _ from g1, ih c2 g2]
            rfl
        have hsv0 : ∀ l : List Int, strV (l.map fun n => Value.int .u8 n) = some (l.map fun n => UInt8.ofNat n.toNat) := by
          intro l
          induction l with
          | nil => rfl
          | cons a l ih => simp only [List.map_cons, strV, ih]
        have hsv : strV cells = some (List.map (fun (n : Int) => UInt8.ofNat n.toNat) l) := by
          rw [hcl]
          exact hsv0 l
        rcases ha with ⟨h0, h00, a, rfl, ha⟩ | ⟨b, off, c, row, rfl, g1, g2, g3, g4, g5⟩
        · have hl0 : l = [] := List.eq_nil_of_length_eq_zero h0
          subst hl0
          refine same (.string ByteArray.empty) ?_ rfl ?_
          · cases a with
            | none => simp only [I.run, e1]
            | some a =>
              obtain ⟨b, off, sp⟩ := a
              obtain rfl : sp = none := ha _ rfl
              simp only [I.run, e1]
              cases hld : H.loadN b off 0 with
              | none => rfl
              | some cs =>
                have hcs : cs = [] := by
                  unfold Heap.loadN at hld
                  split at hld
                  · simp at hld; exact hld
                  · cases hld
                subst hcs
                rfl
          · exact N3.mk_v rfl
        · have hH : H.get b = some row := sim.kh _ _ (sim.vk _ _ g1)
          have hld : H.loadN b off (List.length l) = some cells := by
            rw [loadN_of hH, g5]
            have w1 : Sh.width (.int .u8) = 1 := rfl
            rw [w1, Nat.mul_one] at g4 ⊢
            rw [if_pos (by rw [List.length_take, List.length_drop]; omega)]
          exact same (.string _) (by simp only [I.run, e1, hld, hsv]) rfl (N3.mk_v rfl)
      · cases hr
  case mks es z bytes l c =>
    simp only [nrun] at hr
    cases hl : nev e l with
    | none => rw [hl] at hr; cases hr
    | some vl =>
      cases hc' : nev e c with
      | none => rw [hl, hc'] at hr; cases hr
      | some vc =>
        obtain ⟨ul, e1, k1⟩ := nev_sound he hl
        obtain ⟨uc, e2, k2⟩ := nev_sound he hc'
        rw [hl, hc'] at hr
        simp only [nap2] at hr
        unfold nmks at hr
        split at hr
        · rename_i zc n m hz
          obtain ⟨rfl, _⟩ := k1.v
          obtain ⟨rfl, _⟩ := k2.v
          split at hr <;> cases hr
          rename_i hh
          obtain ⟨hzl, h0, h1, h2, h3⟩ := hh
          refine acts_push sim (row := ⟨List.replicate m.toNat zc, es, es, true, none⟩) (cells := reps m.toNat z) (ty := none) ((nvCs_sound hz).reps _) (fun el hel => by rw [List.eq_of_mem_replicate hel]; exact hzl) (fun _ e => e) ?_ (nrows_sl _ _ _ _)
          simp only [I.run, e1, e2]
          rw [if_pos ⟨h0, h1, h2, h3⟩]
        · cases hr
  case app ty es bytes s y =>
    simp only [nrun] at hr
    cases hs : nev e s with
    | none => rw [hs] at hr; cases hr
    | some vs =>
      cases hy : nev e y with
      | none => rw [hs, hy] at hr; cases hr
      | some vy =>
        obtain ⟨us, e1, k1⟩ := nev_sound he hs
        obtain ⟨uy, e2, k2⟩ := nev_sound he hy
        rw [hs, hy] at hr
        simp only [nap2] at hr
        obtain ⟨φ', H', u, q1, q2, q3, q4, q5⟩ := napp_sound sim k1 k2 hr
        refine ⟨φ', H', u, by simp only [I.run, e1, e2]; exact q1, q2, q3, q4, ?_⟩
        have : ntouch e (.app ty es bytes s y) = rowsOf vs := by
          simp only [ntouch, hs]
          cases vs <;> rfl
        rw [this]
        exact q5
  case clr es z y =>
    simp only [nrun] at hr
    cases hy : nev e y with
    | none => rw [hy] at hr; cases hr
    | some v =>
      obtain ⟨u, e1, k1⟩ := nev_sound he hy
      rw [hy] at hr
      simp only [nap1] at hr
      have same : I.run noCall em H (.clr es z y) = some (unit, H) → h' = h → x = unitN → Acts φ V K h H em (.clr es z y) (ntouch e (.clr es z y)) x h' := fun a b c => by
        subst b c
        exact ⟨φ, H, unit, a, Ext.refl _ _ _ _, sim, N3.unit, Rest.refl _⟩
      unfold nclr at hr
      split at hr
      · cases hr
        obtain rfl := k1.nils
        exact same (by simp only [I.run, e1]) rfl rfl
      · cases hr
        obtain ⟨b, off, row, rfl, _⟩ := k1.emp
        exact same (by simp only [I.run, e1]; rfl) rfl rfl
      · rename_i zc r i n c hz
        split at hr
        · rename_i h0
          subst h0
          cases hr
          refine same ?_ rfl rfl
          rcases k1.sl with ⟨_, _, _, _, rfl⟩ | ⟨b, w, _, rfl⟩
          · simp only [I.run, e1]
          · simp only [I.run, e1]; rfl
        · rename_i h0
          cases hg : h.get r with
          | none => rw [hg] at hr; cases hr
          | some row =>
            rw [hg] at hr
            simp only [nclrR] at hr
            split at hr <;> cases hr
            rename_i hh
            obtain ⟨hown, hw, hin, hzl⟩ := hh
            rcases k1.sl with ⟨_, _, rfl, _, _⟩ | ⟨b, w, p, rfl⟩
            · exact absurd rfl h0
            · obtain ⟨rfl, ⟨cells, ty, g1, g2, g3, g4⟩, hk⟩ := sim.row_at hg p
              subst hw
              have hcells : cells.length = row.els.length * row.w := by rw [← g2.length, flatten_len g3]
              have hzr := (nvCs_sound (φ := φ) (V := V) hz).reps n
              have hwz : ∀ el ∈ List.replicate n zc, el.length = row.w := fun el hel => by rw [List.eq_of_mem_replicate hel]; exact hzl
              have hl := hzr.length
              rw [flatten_len hwz, List.length_replicate] at hl
              have hinw : (i + n) * row.w ≤ row.els.length * row.w := Nat.mul_le_mul_right _ hin
              rw [Nat.add_mul] at hinw
              have hst : H.storeN b (i * row.w) (reps n z) = some (H.set b (some ⟨M.splice cells (i * row.w) (reps n z), row.es, row.own, ty⟩)) := by
                simp only [Heap.storeN, g1, hown, Bool.true_and, cond_eq_ite, Nat.ble_eq]
                rw [if_pos (by omega)]
              have hn0 : Nat.beq n 0 = false := by rw [beq_eq]; simpa using h0
              refine ⟨φ, _, unit, ?_, sim.kill_ext _ _, sim.set hg p g1 (els := nsplice row.els i (List.replicate n zc)) (cells := M.splice cells (i * row.w) (reps n z)) ?_ ?_, N3.unit, ?_⟩
              · simp only [I.run, e1, hn0, cond_false, hst]
              · rw [flatten_splice g3 hwz]; exact g2.splice hzr
              · intro el hel
                rcases nsplice_mem hel with h9 | h9
                · exact g3 el h9
                · exact hwz el h9
              · simp only [ntouch, hy]
                exact Rest.set sim hg p _ _
      · cases hr
  case p2u y =>
    simp only [nrun] at hr
    cases hy : nev e y with
    | none => rw [hy] at hr; cases hr
    | some v =>
      obtain ⟨u, e1, k1⟩ := nev_sound he hy
      rw [hy] at hr
      simp only [nap1] at hr
      unfold np2u at hr
      split at hr
      · cases hr
        obtain ⟨rfl, _⟩ := k1.v
        exact ⟨φ, H, _, by simp only [I.run, e1], Ext.refl _ _ _ _, sim, N3.mk_v rfl, Rest.refl _⟩
      · rename_i r i o
        cases hg : h.get r with
        | none => rw [hg] at hr; cases hr
        | some row =>
          rw [hg] at hr
          simp only [np2uR] at hr
          split at hr <;> cases hr
          rename_i hh
          obtain ⟨hown, hi, ho⟩ := hh
          obtain ⟨b, w, p, rfl⟩ := k1.ptr
          obtain ⟨rfl, ⟨cells, ty, g1, g2, g3, g4⟩, hk⟩ := sim.row_at hg p
          have hcells : cells.length = row.els.length * row.w := by rw [← g2.length, flatten_len g3]
          have hiw : (i + 1) * row.w ≤ row.els.length * row.w := Nat.mul_le_mul_right _ hi
          rw [Nat.add_mul] at hiw
          have hlt : Nat.blt (i * row.w + o) cells.length = true := Nat.ble_eq_true_of_le (by omega)
          exact ⟨φ, H, _, by simp only [I.run, e1, g1, hown, hlt, Bool.and_self, cond_true], Ext.refl _ _ _ _, sim, k1, Rest.refl _⟩
      · cases hr
  case u2p ty n y =>
    simp only [nrun] at hr
    cases hy : nev e y with
    | none => rw [hy] at hr; cases hr
    | some v =>
      obtain ⟨u, e1, k1⟩ := nev_sound he hy
      rw [hy] at hr
      simp only [nap1] at hr
      unfold nu2p at hr
      split at hr
      · cases hr
        obtain ⟨rfl, _⟩ := k1.v
        exact ⟨φ, H, _, by simp only [I.run, e1], Ext.refl _ _ _ _, sim, N3.mk_v rfl, Rest.refl _⟩
      · rename_i r
        cases hg : h.get r with
        | none => rw [hg] at hr; cases hr
        | some row =>
          rw [hg] at hr
          simp only [nu2pR] at hr
          split at hr <;> cases hr
          rename_i hh
          obtain ⟨hown, hn, h0, hty⟩ := hh
          obtain ⟨b, w, p, rfl⟩ := k1.ptr
          obtain ⟨rfl, ⟨cells, ty', g1, g2, g3, g4⟩, hk⟩ := sim.row_at hg p
          have hcells : cells.length = row.els.length * row.w := by rw [← g2.length, flatten_len g3]
          have hiw : 1 * row.w ≤ row.els.length * row.w := Nat.mul_le_mul_right _ h0
          have hlt : Nat.ble n cells.length = true := Nat.ble_eq_true_of_le (by omega)
          have := g4 _ hty
          subst this
          rw [Nat.zero_mul] at e1 k1
          exact ⟨φ, H, .pointer (some ⟨b, 0, none⟩), by simp only [I.run, e1, g1, hown, hlt, Nat.add_zero, beq_eq, decide_true, Bool.and_self, cond_true], Ext.refl _ _ _ _, sim, k1, Rest.refl _⟩
      · cases hr
  case uss ty y n =>
    simp only [nrun] at hr
    cases hy : nev e y with
    | none => rw [hy] at hr; cases hr
    | some vy =>
      cases hn : nev e n with
      | none => rw [hy, hn] at hr; cases hr
      | some vn =>
        obtain ⟨uy, e1, k1⟩ := nev_sound he hy
        obtain ⟨un, e2, k2⟩ := nev_sound he hn
        rw [hy, hn] at hr
        simp only [nap2] at hr
        unfold nuss at hr
        split at hr
        · obtain ⟨rfl, _⟩ := k1.v
          obtain ⟨rfl, _⟩ := k2.v
          split at hr <;> cases hr
          rename_i h0
          exact ⟨φ, H, _, by simp only [I.run, e1, e2, if_pos h0], Ext.refl _ _ _ _, sim, N3.mk_v rfl, Rest.refl _⟩
        · rename_i r i m
          obtain ⟨rfl, _⟩ := k2.v
          cases hg : h.get r with
          | none => rw [hg] at hr; cases hr
          | some row =>
            rw [hg] at hr
            simp only [nussR] at hr
            split at hr
            · rename_i hh
              obtain ⟨h0, h1, hown, hty, hw, hin⟩ := hh
              obtain ⟨l, hl, rfl, rfl⟩ := nstrS_eq hr
              obtain ⟨b, w, p, rfl⟩ := k1.ptr
              obtain ⟨rfl, ⟨cells, ty', g1, g2, g3, g4⟩, hk⟩ := sim.row_at hg p
              have := g4 _ hty
              subst this
              have g3' := g3
              rw [hw] at g3
              have hfl : ((row.els.drop i).take m.toNat).flatten = (row.els.flatten.drop (i * 1)).take (m.toNat * 1) := by
                rw [flatten_drop i g3, flatten_take _ (fun el he => g3 el (List.mem_of_mem_drop he))]
              have hl2 := (g2.drop (i * 1)).take (m.toNat * 1)
              rw [← hfl] at hl2
              have hlen := hl2.length
              rw [flatten_len (w := 1) (fun el he => g3 el (List.mem_of_mem_drop (List.mem_of_mem_take he))), List.length_take, List.length_drop, Nat.min_eq_left (by omega), Nat.mul_one, Nat.mul_one] at hlen
              rw [Nat.mul_one, Nat.mul_one] at hl2
              have hs := nstr_sound hl hl2
              refine ⟨φ, _, .string ⟨l.toArray⟩, ?_, sim.kill_ext _ _, sim.kill hg p, N3.mk_v rfl, by simp only [ntouch, hy]; exact Rest.kill sim hg p⟩
              simp only [I.run, e1, e2, hw, Nat.mul_one, Nat.add_zero]
              rw [if_pos ⟨h0, h1⟩]
              simp only [g1, hown, beq_eq, decide_true, Bool.and_self, cond_true, loadN_of g1, ← hlen, if_true, hs]
            · cases hr
        · cases hr
end
end Go.Proofs.Ytnjmdkecpadehaa.M

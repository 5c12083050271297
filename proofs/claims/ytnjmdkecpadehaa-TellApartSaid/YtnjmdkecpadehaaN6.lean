/- The framework N, sixth text: operations that act: N's answer stands to M's. Conditions: as the laws say. -/
import Derived.Test.YtnjmdkecpadehaaN5
set_option linter.all false
set_option linter.unusedSimpArgs false
namespace Go.Proofs.Ytnjmdkecpadehaa.M

/-- The rows that an operation turns. -/
def ntouch (e : NEnv) : I → List Nat
  | .store _ a _ => match nev e a with
    | some (.ptr r _ _) => [r]
    | _ => []
  | .app _ _ _ s _ => match nev e s with
    | some (.sl r _ _ _) => [r]
    | _ => []
  | .clr _ _ x => match nev e x with
    | some (.sl r _ _ _) => [r]
    | _ => []
  | .uss _ x _ => match nev e x with
    | some (.ptr r _ _) => [r]
    | _ => []
  | _ => []
/-- What an act leaves as it was. -/
structure Rest (φ : NPhi) (h h' : NHeap) (H H' : Heap) (T : List Nat) : Prop where
  row : ∀ r row b w, h.get r = some row → φ r = some (.at b w) → r ∉ T → H'.get b = H.get b
  get : ∀ r, r ∉ T → r < h.nx → h'.get r = h.get r
  nx : h.nx ≤ h'.nx
def Acts (φ : NPhi) (V K : View) (h : NHeap) (H : Heap) (em : Env) (i : I) (T : List Nat) (x : NV) (h' : NHeap) : Prop :=
  ∃ φ' H' u, i.run noCall em H = some (u, H') ∧ Ext φ V K H φ' V K H' ∧ SimH φ' V K h' H' ∧ N3 φ' V x u ∧ Rest φ h h' H H' T
section
variable {φ : NPhi} {V K : View} {h : NHeap} {H : Heap}
theorem Rest.refl (T : List Nat) : Rest φ h h H H T := ⟨fun _ _ _ _ _ _ _ => rfl, fun _ _ _ => rfl, Nat.le_refl _⟩
theorem Rest.push (sim : SimH φ V K h H) (row : NRow) (mrow : Row) : Rest φ h (h.push row) H (H.push mrow) [] :=
  ⟨fun r row' b w hg hp _ => by
    obtain ⟨_, ⟨c, t, q, _⟩, _⟩ := sim.row_at hg hp
    have := sim.ok _ _ q
    rw [Heap.get_push, if_neg (by omega)], fun r _ hr => by rw [NHeap.get_push, if_neg (by omega)], by simp [NHeap.push]⟩
theorem Rest.set (sim : SimH φ V K h H) {r b w : Nat} {row : NRow} (hg : h.get r = some row) (hp : φ r = some (.at b w)) (row' : NRow) (x : Option Row) : Rest φ h (h.set r row') H (H.set b x) [r] :=
  ⟨fun r' row2 b' w' hg' hp' hn => sim.set_get hg hp hg' hp' (by simpa using hn) x, fun r' hn _ => by rw [NHeap.get_set, if_neg (by simpa using hn)], Nat.le_refl _⟩
theorem Rest.kill (sim : SimH φ V K h H) {r b w : Nat} {row : NRow} (hg : h.get r = some row) (hp : φ r = some (.at b w)) : Rest φ h (h.del r) H (H.set b none) [r] :=
  ⟨fun r' row2 b' w' hg' hp' hn => sim.set_get hg hp hg' hp' (by simpa using hn) none, fun r' hn _ => by rw [NHeap.get_del, if_neg (by simpa using hn)], Nat.le_refl _⟩
theorem Rest.trans {h1 h2 : NHeap} {H1 H2 : Heap} {φ1 : NPhi} {T : List Nat} (a : Rest φ h h1 H H1 T) (b : Rest φ1 h1 h2 H1 H2 T) (hle : φ.le φ1) (hlt : ∀ r row, h.get r = some row → r < h.nx) : Rest φ h h2 H H2 T :=
  ⟨fun r row b' w hg hp hn => by
    have h1g := a.get r hn (hlt _ _ hg)
    rw [b.row r row b' w (by rw [h1g]; exact hg) (hle _ _ hp) hn]
    exact a.row r row b' w hg hp hn, fun r hn hr => by rw [b.get r hn (Nat.lt_of_lt_of_le hr a.nx), a.get r hn hr], Nat.le_trans a.nx b.nx⟩
theorem Rest.sub {T T' : List Nat} {H' : Heap} {h' : NHeap} (a : Rest φ h h' H H' T) (k : ∀ r ∈ T, r ∈ T') : Rest φ h h' H H' T' :=
  ⟨fun r row b w hg hp hn => a.row r row b w hg hp (fun e => hn (k r e)), fun r hn hr => a.get r (fun e => hn (k r e)) hr, a.nx⟩
theorem SimH.kill_ext (sim : SimH φ V K h H) (b : Nat) (x : Option Row) : Ext φ V K H φ V K (H.set b x) := ⟨NPhi.le_refl _, View.le_refl _, View.le_refl _, Nat.le_refl _, fun _ _ h => .inr h⟩
/-- A new row. -/
theorem acts_push (sim : SimH φ V K h H) {em : Env} {i : I} {row : NRow} {cells : List Value} {ty : Option Nat} (h1 : L2 (N0 φ V) row.els.flatten cells) (h2 : ∀ el ∈ row.els, el.length = row.w) (h3 : ∀ t, row.ty = some t → ty = some t) {x : NV} {u : Value}
    (hrun : i.run noCall em H = some (u, H.push ⟨cells, row.es, row.own, ty⟩)) (hx : N3 (bindN φ h.nx (.at H.size row.w)) V x u) : Acts φ V K h H em i [] x (h.push row) :=
  ⟨_, _, u, hrun, sim.push_ext row _, sim.push h1 h2 h3, hx, Rest.push sim row _⟩
theorem bind_at (φ : NPhi) (r : Nat) (l : Loc) : bindN φ r l r = some l := by simp [bindN]
theorem nrows_sl (b w n c : Nat) : N3 (bindN φ h.nx (.at b w)) V (.sl h.nx 0 n c) (.slice (some ⟨b, 0, none⟩) n c) := .inr ⟨b, w, bind_at _ _ _, by rw [Nat.zero_mul]⟩
theorem nrows_ptr (b w : Nat) : N3 (bindN φ h.nx (.at b w)) V (.ptr h.nx 0 0) (.pointer (some ⟨b, 0, none⟩)) := ⟨b, w, bind_at _ _ _, by rw [Nat.zero_mul]⟩
theorem isSl_spec {s : NV} (hs : isSl s = true) {u : Value} (k : N3 φ V s u) : ∃ a n c, u = .slice a n c ∧ (∀ x, a = some x → x.spot = none) ∧ (a = none → n = 0 ∧ c = 0) := by
  unfold isSl at hs
  split at hs <;> try cases hs
  · obtain rfl := k.nils; exact ⟨none, 0, 0, rfl, fun _ e => (by cases e), fun _ => ⟨rfl, rfl⟩⟩
  · obtain ⟨b, off, row, rfl, _⟩ := k.emp; exact ⟨_, _, _, rfl, fun _ e => (by cases e; rfl), fun e => by cases e⟩
  · rcases k.sl with ⟨_, _, rfl, rfl, rfl⟩ | ⟨b, w, _, rfl⟩
    · exact ⟨none, 0, 0, rfl, fun _ e => (by cases e), fun _ => ⟨rfl, rfl⟩⟩
    · exact ⟨_, _, _, rfl, fun _ e => (by cases e; rfl), fun e => by cases e⟩
  · obtain ⟨cells, ha, _⟩ := k.fsl
    rcases ha with ⟨_, _, a, rfl, ha⟩ | ⟨b, off, c, row, rfl, _⟩
    · exact ⟨a, 0, 0, rfl, ha, fun _ => ⟨rfl, rfl⟩⟩
    · exact ⟨_, _, _, rfl, fun _ e => (by cases e; rfl), fun e => by cases e⟩
theorem appV_zero {ty es bytes : Nat} {H : Heap} {a : Option Addr} {n c : Nat} {x : Value} {cs : List Value} (hn : newOf H es x = some (cs, 0)) (ha : ∀ x, a = some x → x.spot = none) (h0 : a = none → n = 0 ∧ c = 0) : appV ty es bytes H (.slice a n c) x = some (.slice a n c, H) := by
  unfold appV
  rw [hn]
  simp only
  cases a with
  | none => obtain ⟨rfl, rfl⟩ := h0 rfl; rfl
  | some a =>
    obtain ⟨b, off, sp⟩ := a
    obtain rfl : sp = none := ha _ rfl
    rfl
def rowsOf : NV → List Nat
  | .sl r _ _ _ => [r]
  | _ => []
theorem napp_sound (sim : SimH φ V K h H) {ty es bytes : Nat} {s x : NV} {us ux : Value} (hs : N3 φ V s us) (hx : N3 φ V x ux) {out : NV} {h' : NHeap} (hr : napp ty es bytes h s x = some (out, h')) :
    ∃ φ' H' u, appV ty es bytes H us ux = some (u, H') ∧ Ext φ V K H φ' V K H' ∧ SimH φ' V K h' H' ∧ N3 φ' V out u ∧ Rest φ h h' H H' (rowsOf s) := by
  unfold napp at hr
  cases hn : nnew h es x with
  | none => rw [hn] at hr; cases hr
  | some els =>
    rw [hn] at hr
    obtain ⟨cs, k1, k2, k3⟩ := nnew_sound sim hx hn
    simp only [nappE] at hr
    split at hr
    · rename_i h0
      rw [h0] at k1
      split at hr <;> cases hr
      rename_i hsl
      obtain ⟨a, n, c, rfl, q1, q2⟩ := isSl_spec hsl hs
      exact ⟨φ, H, _, appV_zero k1 q1 q2, Ext.refl _ _ _ _, sim, hs, Rest.refl _⟩
    · rename_i h0
      have hm0 : Nat.beq els.length 0 = false := by rw [beq_eq]; simpa using h0
      have hcl : cs.length = els.length * es := by rw [← k2.length, flatten_len k3]
      unfold nappN at hr
      split at hr
      · split at hr <;> cases hr
        rename_i hrm
        obtain rfl := hs.nils
        have hb : Nat.ble (els.length * bytes) room = true := Nat.ble_eq_true_of_le hrm
        have hrun : appV ty es bytes H (.slice none 0 0) ux = some (.slice (some ⟨H.size, 0, none⟩) els.length els.length, H.push ⟨cs, es, true, some ty⟩) := by
          simp only [appV, k1, hm0, cond_false, hb, cond_true]
        exact ⟨_, _, _, hrun, sim.push_ext ⟨els, es, es, true, some ty⟩ _, sim.push (row := ⟨els, es, es, true, some ty⟩) k2 k3 (fun _ e => e), nrows_sl _ _ _ _, Rest.push sim _ _⟩
      · rename_i w
        split at hr <;> cases hr
        rename_i hh
        obtain ⟨rfl, hrm⟩ := hh
        obtain ⟨b, off, row, rfl, g1, g2, g3⟩ := hs.emp
        have hH : H.get b = some row := sim.kh _ _ (sim.vk _ _ g1)
        have hb : Nat.ble ((0 + els.length) * bytes) room = true := Nat.ble_eq_true_of_le (by rw [Nat.zero_add]; exact hrm)
        have hne : Nat.ble (0 + els.length) 0 = false := by
          rw [Bool.eq_false_iff]; intro e; have := Nat.le_of_ble_eq_true e; omega
        have hlt : Nat.blt (off + 0 * w) row.cells.length = true := Nat.ble_eq_true_of_le (by omega)
        have hrun : appV ty w bytes H (.slice (some ⟨b, off, none⟩) 0 0) ux = some (.slice (some ⟨H.size, 0, none⟩) (0 + els.length) (0 + els.length), H.push ⟨(row.cells.drop off).take (0 * w) ++ cs, w, true, keepTy ty off row.ty⟩) := by
          simp only [appV, k1, hm0, cond_false, hne, hb, cond_true, hH, hlt, g2, beq_eq, Nat.zero_mul, List.take_zero, List.length_nil, decide_true, Bool.and_self]
          have h9 : Nat.blt (off + 0) row.cells.length = true := by simpa using hlt
          simp only [h9, cond_true]
        rw [Nat.zero_mul, List.take_zero, List.nil_append, Nat.zero_add] at hrun
        exact ⟨_, _, _, hrun, sim.push_ext ⟨els, w, w, true, none⟩ _, sim.push (row := ⟨els, w, w, true, none⟩) k2 k3 (fun _ e => by cases e), nrows_sl _ _ _ _, Rest.push sim _ _⟩
      · rename_i r i n c
        cases hg : h.get r with
        | none => rw [hg] at hr; cases hr
        | some row =>
          rw [hg] at hr
          simp only [nappR] at hr
          split at hr
          · rename_i hh
            obtain ⟨hpos, hw, hes, hown, hic, hnc⟩ := hh
            rcases hs.sl with ⟨p, rfl, rfl, rfl, rfl⟩ | ⟨b, w, p, rfl⟩
            · -- the row is none
              have hel : row.els = [] := by
                rcases sim.rows r row hg with ⟨_, q, _⟩ | ⟨b, q, _⟩
                · exact q
                · rw [p] at q; cases q
              rw [if_neg (by omega)] at hr
              split at hr
              · rename_i hrm
                rw [if_neg (by rw [hel]; simp)] at hr
                simp only [Nat.zero_add, List.take_zero, List.nil_append, Nat.zero_mul, Option.some.injEq, Prod.mk.injEq] at hr
                obtain ⟨rfl, rfl⟩ := hr
                rw [Nat.zero_add] at hrm
                have hb : Nat.ble (els.length * bytes) room = true := Nat.ble_eq_true_of_le hrm
                have hrun : appV ty es bytes H (.slice none 0 0) ux = some (.slice (some ⟨H.size, 0, none⟩) els.length els.length, H.push ⟨cs, es, true, some ty⟩) := by
                  simp only [appV, k1, hm0, cond_false, hb, cond_true]
                have s2 := sim.sub (h.del_sub r)
                have key := s2.push (row := ⟨els, es, es, true, keepTy ty 0 row.ty⟩) (ty := some ty) k2 k3 (fun t e => by
                  unfold keepTy at e
                  simp only at e
                  split at e
                  · rw [cond_eq_ite] at e
                    split at e <;> cases e
                    rfl
                  · cases e)
                refine ⟨_, _, _, hrun, s2.push_ext ⟨els, es, es, true, keepTy ty 0 row.ty⟩ _, key, nrows_sl (h := h.del r) _ _ _ _, ?_⟩
                have r1 : Rest φ h (h.del r) H H [r] := ⟨fun _ _ _ _ _ _ _ => rfl, fun r' hn _ => by rw [NHeap.get_del, if_neg (by simpa using hn)], Nat.le_refl _⟩
                exact r1.trans ((Rest.push s2 _ _).sub (fun _ e => by cases e)) (NPhi.le_refl _) (fun _ _ e => sim.live e)
              · cases hr
            · obtain ⟨rfl, ⟨cells, ty0, g1, g2, g3, g4⟩, hk⟩ := sim.row_at hg p
              subst hw
              have hcells : cells.length = row.els.length * row.w := by rw [← g2.length, flatten_len g3]
              have hicw : (i + c) * row.w ≤ row.els.length * row.w := Nat.mul_le_mul_right _ hic
              have hnw : n * row.w ≤ c * row.w := Nat.mul_le_mul_right _ hnc
              rw [Nat.add_mul] at hicw
              split at hr
              · rename_i hin
                cases hr
                have hinw : (n + els.length) * row.w ≤ c * row.w := Nat.mul_le_mul_right _ hin
                rw [Nat.add_mul] at hinw
                have hb : Nat.ble (n + els.length) c = true := Nat.ble_eq_true_of_le hin
                have hst : H.storeN b (i * row.w + n * row.w) cs = some (H.set b (some ⟨M.splice cells (i * row.w + n * row.w) cs, row.es, row.own, ty0⟩)) := by
                  simp only [Heap.storeN, g1, hown, Bool.true_and, cond_eq_ite, Nat.ble_eq]
                  rw [if_pos (by omega)]
                have hrun : appV ty row.w bytes H (.slice (some ⟨b, i * row.w, none⟩) n c) ux = some (.slice (some ⟨b, i * row.w, none⟩) (n + els.length) c, H.set b (some ⟨M.splice cells (i * row.w + n * row.w) cs, row.es, row.own, ty0⟩)) := by
                  simp only [appV, k1, hm0, cond_false, hb, cond_true, hst]
                have hfl : (nsplice row.els (i + n) els).flatten = nsplice row.els.flatten (i * row.w + n * row.w) els.flatten := by
                  rw [flatten_splice g3 k3, Nat.add_mul]
                refine ⟨_, _, _, hrun, sim.kill_ext _ _, sim.set hg p g1 (els := nsplice row.els (i + n) els) ?_ ?_, .inr ⟨b, row.w, p, rfl⟩, Rest.set sim hg p _ _⟩
                · rw [hfl]; exact g2.splice k2
                · intro el he
                  rcases nsplice_mem he with h9 | h9
                  · exact g3 el h9
                  · exact k3 el h9
              · rename_i hin
                split at hr
                · rename_i hrm
                  have hne : Nat.ble (n + els.length) c = false := by
                    rw [Bool.eq_false_iff]; intro e; exact hin (Nat.le_of_ble_eq_true e)
                  have hb : Nat.ble ((n + els.length) * bytes) room = true := Nat.ble_eq_true_of_le hrm
                  have hold : ((row.els.drop i).take n).flatten = (row.els.flatten.drop (i * row.w)).take (n * row.w) := by
                    rw [flatten_drop i g3, flatten_take n (fun el he => g3 el (List.mem_of_mem_drop he))]
                  have hl2 : L2 (N0 φ V) ((row.els.drop i).take n ++ els).flatten ((cells.drop (i * row.w)).take (n * row.w) ++ cs) := by
                    rw [List.flatten_append, hold]
                    exact L2.append ((g2.drop _).take _) k2
                  have hw2 : ∀ el ∈ (row.els.drop i).take n ++ els, el.length = row.w := fun el he => by
                    rw [List.mem_append] at he
                    rcases he with h9 | h9
                    · exact g3 el (List.mem_of_mem_drop (List.mem_of_mem_take h9))
                    · exact k3 el h9
                  have holen : ((cells.drop (i * row.w)).take (n * row.w)).length = n * row.w := by rw [List.length_take, List.length_drop]; omega
                  have hty : ∀ t, keepTy ty (i * row.w) row.ty = some t → keepTy ty (i * row.w) ty0 = some t := fun t e => by
                    cases hrt : row.ty with
                    | none => rw [hrt] at e; cases e
                    | some t0 => rw [hrt] at e; rw [g4 t0 hrt]; exact e
                  have hcw : i * row.w + c * row.w = (i + c) * row.w := by rw [Nat.add_mul]
                  split at hr
                  · rename_i hlt
                    cases hr
                    have hwp : row.w ≠ 0 ∨ row.w = 0 := by omega
                    by_cases hbl : Nat.blt (i * row.w + c * row.w) cells.length = true
                    · have hrun : appV ty row.w bytes H (.slice (some ⟨b, i * row.w, none⟩) n c) ux = some (.slice (some ⟨H.size, 0, none⟩) (n + els.length) (n + els.length), H.push ⟨(cells.drop (i * row.w)).take (n * row.w) ++ cs, row.w, true, keepTy ty (i * row.w) ty0⟩) := by
                        simp only [appV, k1, hm0, cond_false, hne, hb, cond_true, g1, holen, hes, beq_eq, decide_true, Bool.and_self, hbl]
                      exact ⟨_, _, _, hrun, sim.push_ext ⟨_, row.w, row.w, true, keepTy ty (i * row.w) row.ty⟩ _, sim.push (row := ⟨_, row.w, row.w, true, keepTy ty (i * row.w) row.ty⟩) hl2 hw2 hty, nrows_sl _ _ _ _, (Rest.push sim _ _).sub (fun _ e => by cases e)⟩
                    · exfalso
                      have hw0 : row.w = 0 := by
                        rcases Nat.eq_zero_or_pos row.w with g | g
                        · exact g
                        · exfalso
                          apply hbl
                          apply Nat.ble_eq_true_of_le
                          have := Nat.mul_lt_mul_of_pos_right hlt g
                          omega
                      -- elements without cells: none such is appended to
                      omega
                  · rename_i hlt
                    cases hr
                    have hbl : Nat.blt (i * row.w + c * row.w) cells.length = false := by
                      rw [Bool.eq_false_iff]
                      intro e
                      have h9 : i * row.w + c * row.w < cells.length := Nat.le_of_ble_eq_true e
                      have : row.els.length * row.w ≤ (i + c) * row.w := Nat.mul_le_mul_right _ (by omega)
                      omega
                    have hrun : appV ty row.w bytes H (.slice (some ⟨b, i * row.w, none⟩) n c) ux = some (.slice (some ⟨(H.set b none).size, 0, none⟩) (n + els.length) (n + els.length), (H.set b none).push ⟨(cells.drop (i * row.w)).take (n * row.w) ++ cs, row.w, true, keepTy ty (i * row.w) ty0⟩) := by
                      simp only [appV, k1, hm0, cond_false, hne, hb, cond_true, g1, holen, hes, beq_eq, decide_true, Bool.and_self, hbl, hown]
                      rfl
                    have s2 := sim.kill hg p
                    refine ⟨_, _, _, hrun, (sim.kill_ext b none).trans (s2.push_ext ⟨_, row.w, row.w, true, keepTy ty (i * row.w) row.ty⟩ _), s2.push (row := ⟨_, row.w, row.w, true, keepTy ty (i * row.w) row.ty⟩) hl2 hw2 hty, nrows_sl (h := h.del r) _ _ _ _, ?_⟩
                    exact (Rest.kill sim hg p).trans ((Rest.push s2 _ _).sub (fun _ e => by cases e)) (NPhi.le_refl _) (fun _ _ e => sim.live e)
                · cases hr
          · cases hr
      · cases hr
end
end Go.Proofs.Ytnjmdkecpadehaa.M

/- The framework M, fourth text: each operation that neither reads nor makes memory answers as M says. Conditions: the look 'okOp' at the operation. -/
import Derived.Test.YtnjmdkecpadehaaMOk
import Derived.Laws.StructEq
set_option linter.all false
set_option linter.unusedSimpArgs false
namespace Go.Proofs.Ytnjmdkecpadehaa.M

theorem ok_and {a b : Bool} (h : (a && b) = true) : a = true ∧ b = true := by simpa using h
theorem isBool_spec {P : Program} {t : Nat} (h : isBool P t = true) : P.underlying t = some .bool := by
  unfold isBool at h; split at h <;> simp_all
theorem isStr_spec {P : Program} {t : Nat} (h : isStr P t = true) : P.underlying t = some .string := by
  unfold isStr at h; split at h <;> simp_all
theorem isPtr_spec {P : Program} {t : Nat} (h : isPtr P t = true) : ∃ e, P.underlying t = some (.pointer e) := by
  unfold isPtr at h; split at h <;> simp_all
theorem isKind_spec {P : Program} {t : Nat} {k : IntKind} (h : isKind P t k = true) : P.underlying t = some (.int k) := by
  unfold isKind at h; split at h <;> simp_all
theorem sliceOf_spec {P : Program} {t e : Nat} (h : sliceOf P t = some e) : P.underlying t = some (.slice e) := by
  unfold sliceOf at h; split at h <;> simp_all
theorem structOf_spec {P : Program} {t : Nat} {fs : Array Field} (h : structOf P t = some fs) : P.underlying t = some (.struct fs) := by
  unfold structOf at h; split at h <;> simp_all
theorem isSome'_spec {α : Type} {o : Option α} (h : isSome' o = true) : ∃ x, o = some x := by
  cases o with
  | none => simp [isSome'] at h
  | some x => exact ⟨x, rfl⟩
theorem szIs_spec {P : Program} {t n : Nat} (h : szIs P t n = true) : ∃ i, P.info? t = some i ∧ i.size = n := by
  unfold szIs at h; split at h
  · rename_i i hi; rw [beq_eq, decide_eq_true_eq] at h; exact ⟨i, hi, h⟩
  · cases h
theorem run_sizeOf' {P : Program} {t n : Nat} (h : szIs P t n = true) (w : World) : (sizeOf t).run P w = .ok n w := by
  obtain ⟨i, hi, hn⟩ := szIs_spec h
  simp [sizeOf, typeInfo, hi, hn]
theorem run_zeroValue' {P : Program} {t : Nat} {z : List Value} (h : zeroIs P t z = true) (w : World) : ∃ v, (zeroValue t).run P w = .ok v w ∧ v.cells.toList = z ∧ ∀ φ, LR (VR0 φ) z z := by
  unfold zeroIs at h; split at h
  · rename_i i hi
    split at h
    · rename_i v hv
      obtain ⟨e, k⟩ := plains_spec h
      exact ⟨v, by simp [zeroValue, typeInfo, hi, hv], e, k⟩
    · cases h
  · cases h
theorem run_isAgg' {P : Program} {t : Nat} {b : Bool} (h : aggIs P t b = true) (w : World) : (isAgg t).run P w = .ok b w := by
  unfold aggIs at h
  split at h
  · rename_i hu; simp [isAgg, run_underlying hu, h]
  · rename_i hu; simp [isAgg, run_underlying hu, h]
  · rename_i d h1 h2 hu
    simp only [isAgg, Sem.run_bind, run_underlying hu, Result.andThen_ok]
    simp at h; subst h
    cases d <;> first
      | rfl
      | exact (h1 _ rfl).elim
      | exact (h2 _ _ rfl).elim
  · cases h

theorem eqCells_same : ∀ {ks : List Nat} {x y : List Value} {r : Bool}, eqCells ks x y = some r → ∀ {φ : Phi} {x' : List Value}, LR (VR0 φ) x x' → x' = x
  | [], [], [], _, _, _, x', h => LR.nil_left h
  | k0 :: ks, a :: x, b :: y, r, h, φ, x', k => by
    obtain ⟨b', z, rfl, h1, h2⟩ := LR.cons_left k
    unfold eqCells at h
    split at h
    · rename_i p q hp hq
      rw [eqCells_same hq h2]
      congr 1
      unfold eqCell at hp
      split at hp <;> first
        | exact h1
        | cases hp
    · cases h
  | [], _ :: _, _, _, h, _, _, _ => by simp [eqCells] at h
  | [], [], _ :: _, _, h, _, _, _ => by simp [eqCells] at h
  | _ :: _, [], _, _, h, _, _, _ => by simp [eqCells] at h
  | _ :: _, _ :: _, [], _, h, _, _, _ => by simp [eqCells] at h
theorem eqCells_same' : ∀ {ks : List Nat} {x y : List Value} {r : Bool}, eqCells ks x y = some r → ∀ {φ : Phi} {y' : List Value}, LR (VR0 φ) y y' → y' = y
  | [], [], [], _, _, _, x', h => LR.nil_left h
  | k0 :: ks, a :: x, b :: y, r, h, φ, x', k => by
    obtain ⟨b', z, rfl, h1, h2⟩ := LR.cons_left k
    unfold eqCells at h
    split at h
    · rename_i p q hp hq
      rw [eqCells_same' hq h2]
      congr 1
      unfold eqCell at hp
      split at hp <;> first
        | exact h1
        | cases hp
    · cases h
  | [], _ :: _, _, _, h, _, _, _ => by simp [eqCells] at h
  | [], [], _ :: _, _, h, _, _, _ => by simp [eqCells] at h
  | _ :: _, [], _, _, h, _, _, _ => by simp [eqCells] at h
  | _ :: _, _ :: _, [], _, h, _, _, _ => by simp [eqCells] at h
theorem eqCells_split : ∀ (k1 : List Nat) {k2 : List Nat} {x y : List Value} {r : Bool}, eqCells (k1 ++ k2) x y = some r →
    ∃ p q, eqCells k1 (x.take k1.length) (y.take k1.length) = some p ∧ eqCells k2 (x.drop k1.length) (y.drop k1.length) = some q ∧ r = (p && q)
  | [], k2, x, y, r, h => ⟨true, r, by simp [eqCells], by simpa using h, by simp⟩
  | k :: k1, k2, a :: x, b :: y, r, h => by
    simp only [List.cons_append] at h
    unfold eqCells at h
    split at h
    · rename_i p q hp hq
      obtain ⟨s, t, h1, h2, h3⟩ := eqCells_split k1 hq
      cases h
      exact ⟨p && s, t, by simp [eqCells, hp, h1], by simpa using h2, by rw [h3, Bool.and_assoc]⟩
    · cases h
  | _ :: _, _, [], _, _, h => by simp [eqCells] at h
  | _ :: _, _, _ :: _, [], _, h => by simp [eqCells] at h
theorem eqCells_len : ∀ {ks : List Nat} {x y : List Value} {r : Bool}, eqCells ks x y = some r → x.length = ks.length ∧ y.length = ks.length
  | [], [], [], _, _ => ⟨rfl, rfl⟩
  | k :: ks, a :: x, b :: y, r, h => by
    unfold eqCells at h
    split at h
    · rename_i p q hp hq; have := eqCells_len hq; simp [this]
    · cases h
  | [], _ :: _, _, _, h => by simp [eqCells] at h
  | [], [], _ :: _, _, h => by simp [eqCells] at h
  | _ :: _, [], _, _, h => by simp [eqCells] at h
  | _ :: _, _ :: _, [], _, h => by simp [eqCells] at h

/-- A value out of cells: one cell, or several together. -/
def valOf (P : Program) (t : Nat) (cs : List Value) : Value :=
  match P.underlying t with
  | some (.struct _) => .agg cs.toArray
  | _ => cs.headD undef
theorem valOf_one {P : Program} {t : Nat} {a : Value} (hu : ∀ fs, P.underlying t ≠ some (.struct fs)) : valOf P t [a] = a := by
  unfold valOf; split
  · rename_i fs hf; exact absurd hf (hu _)
  · rfl
theorem eqCells_one {k : Nat} {x y : List Value} {r : Bool} (h : eqCells [k] x y = some r) : ∃ a b, x = [a] ∧ y = [b] ∧ eqCell k a b = some r := by
  have hl := eqCells_len h
  match x, y, hl, h with
  | [a], [b], _, h =>
    simp only [eqCells] at h
    split at h
    · rename_i p q hp hq; cases hq; simp at h; subst h; exact ⟨a, b, rfl, rfl, hp⟩
    · cases h
theorem run_part_flat {P : Program} {d : Nat} {t : TypeId} {ks : List Nat} (h : flatT P d t = some ks) (hs : szIs P t ks.length = true) (cs : List Value) (off : Nat) (hl : off + ks.length ≤ cs.length) (w : World) :
    (part t cs.toArray off).run P w = .ok (valOf P t ((cs.drop off).take ks.length)) w := by
  cases d with
  | zero => simp [flatT] at h
  | succ d =>
    unfold flatT at h
    have one : ∀ (hu : ∀ fs, P.underlying t ≠ some (.struct fs)) (ha : aggIs P t false = true), ks.length = 1 → (part t cs.toArray off).run P w = .ok (valOf P t ((cs.drop off).take ks.length)) w := by
      intro hu ha hk
      have hlt : off < cs.length := by omega
      have e : (cs.drop off).take ks.length = [cs[off]] := by
        rw [hk, List.drop_eq_getElem_cons hlt]
        rfl
      rw [e, valOf_one hu]
      simp [part, run_isAgg' ha, hlt]
    split at h
    · rename_i k hu; cases h; exact one (by intro fs e; rw [hu] at e; cases e) (by simp [aggIs, hu]) rfl
    · rename_i hu; cases h; exact one (by intro fs e; rw [hu] at e; cases e) (by simp [aggIs, hu]) rfl
    · rename_i hu; cases h; exact one (by intro fs e; rw [hu] at e; cases e) (by simp [aggIs, hu]) rfl
    · rename_i fs hu
      have ha : aggIs P t true = true := by simp [aggIs, hu]
      simp only [part, Sem.run_bind, run_isAgg' ha, Result.andThen_ok, if_true, run_sizeOf' hs, Sem.run_pure, valOf, hu]
      congr 2
      apply Array.ext'
      simp
    · cases h
theorem run_eqFields_flat {P : Program} (w : World) (d k : Nat) (ih : ∀ (t : TypeId) (ks : List Nat), flatT P d t = some ks → ∀ (x y : List Value) (r : Bool), eqCells ks x y = some r →
    (Op.equalIn (d + k) t (valOf P t x) (valOf P t y)).run P w = .ok r w) (x y : List Value) : ∀ (fs : List Field) (off : Nat) (ks : List Nat), flatFs P (flatT P d) fs off = some ks →
    ∀ (r : Bool), eqCells ks (x.drop off) (y.drop off) = some r → (Op.eqFields (d + k) x.toArray y.toArray fs).run P w = .ok r w
  | [], off, ks, h, r, hr => by
    cases h
    have hl := eqCells_len hr
    match hx : x.drop off, hy : y.drop off with
    | [], [] => rw [hx, hy] at hr; cases hr; simp [Op.eqFields]
    | _ :: _, _ => rw [hx] at hl; simp at hl
    | [], _ :: _ => rw [hy] at hl; simp at hl
  | f :: fs, off, ks, h, r, hr => by
    unfold flatFs at h
    split at h
    · cases h
    · rename_i hname
      split at h
      · rename_i hoff
        split at h
        · rename_i k1 hk1
          cases hsb : szIs P f.type k1.length && Nat.blt 0 k1.length with
          | false => rw [hsb] at h; cases h
          | true =>
            rw [hsb, cond_true] at h
            obtain ⟨hsz, hpos⟩ := ok_and hsb
            have hpos : 0 < k1.length := Nat.le_of_ble_eq_true hpos
            split at h
            · rename_i l hl
              cases h
              obtain ⟨p, q, h1, h2, rfl⟩ := eqCells_split k1 hr
              rw [List.drop_drop, List.drop_drop] at h2
              have hrest := run_eqFields_flat w d k ih x y fs (off + k1.length) l hl q h2
              have hlx := (eqCells_len hr).1
              have hly := (eqCells_len hr).2
              simp at hlx hly
              have ha := run_part_flat hk1 hsz x off (by omega) w
              have hb := run_part_flat hk1 hsz y off (by omega) w
              have he := ih f.type k1 hk1 _ _ p h1
              rw [Op.eqFields, hoff]
              simp only [if_pos (show f.name ≠ "_" from hname), Sem.run_bind, ha, hb, he, Result.andThen_ok]
              cases p
              · simp
              · simpa using hrest
            · cases h
        · cases h
      · cases h
theorem run_equal_flat {P : Program} (w : World) : ∀ (d k : Nat) (t : TypeId) (ks : List Nat), flatT P d t = some ks → ∀ (x y : List Value) (r : Bool), eqCells ks x y = some r →
    (Op.equalIn (d + k) t (valOf P t x) (valOf P t y)).run P w = .ok r w := by
  intro d
  induction d with
  | zero => intro k t n h; simp [flatT] at h
  | succ d ih =>
    intro k t ks h x y r hr
    have h0 := h
    unfold flatT at h
    rw [Nat.add_right_comm]
    split at h
    · rename_i kk hu
      cases h
      obtain ⟨a, b, rfl, rfl, hab⟩ := eqCells_one hr
      rw [valOf_one (by intro fs e; rw [hu] at e; cases e), valOf_one (by intro fs e; rw [hu] at e; cases e)]
      unfold eqCell at hab
      split at hab <;> try cases hab
      · split at hab
        · rename_i hk; cases hab; subst hk; simp [Op.equalIn, run_underlying hu]
        · cases hab
      · rename_i h9; cases h9
      · rename_i h9; cases h9
    · rename_i hu
      cases h
      obtain ⟨a, b, rfl, rfl, hab⟩ := eqCells_one hr
      rw [valOf_one (by intro fs e; rw [hu] at e; cases e), valOf_one (by intro fs e; rw [hu] at e; cases e)]
      unfold eqCell at hab
      split at hab <;> try cases hab
      · rename_i h9; cases h9
      · simp [Op.equalIn, run_underlying hu]
      · rename_i h9; cases h9
    · rename_i hu
      cases h
      obtain ⟨a, b, rfl, rfl, hab⟩ := eqCells_one hr
      rw [valOf_one (by intro fs e; rw [hu] at e; cases e), valOf_one (by intro fs e; rw [hu] at e; cases e)]
      unfold eqCell at hab
      split at hab <;> try cases hab
      · rename_i h9; cases h9
      · rename_i h9; cases h9
      · simp [Op.equalIn, run_underlying hu]
    · rename_i fs hu
      cases hst : P.stoodInHeld t with
      | true => rw [hst] at h; cases h
      | false =>
        rw [hst, cond_false] at h
        have hx : ∀ z : List Value, valOf P t z = .agg z.toArray := fun z => by simp [valOf, hu]
        have hf : P.fieldsOf t = fs := by simp [Program.fieldsOf, hu]
        rw [hx, hx, run_equalIn_struct (P := P) w (d + k) t x.toArray y.toArray (by rw [hf]; exact hu) hst, hf]
        exact run_eqFields_flat w d k (fun t ks h x y r => ih k t ks h x y r) x y fs.toList 0 ks h r (by simpa using hr)
    · cases h

end Go.Proofs.Ytnjmdkecpadehaa.M

/- The framework N, twelfth text: laws by which 'simp' carries out N's operations. Conditions: none. -/
import Derived.Test.YtnjmdkecpadehaaN11
set_option linter.all false
set_option linter.unusedSimpArgs false
namespace Go.Proofs.Ytnjmdkecpadehaa.M

section
variable {F : Nat → Option Fun} {e : NEnv} {h : NHeap}
/-- Behind an operation, the rest. -/
def ngo (F : Nat → Option Fun) (d : Option Nat) (r : List O) (e : NEnv) (Q : NEnv → NHeap → Prop) : NRes → Prop
  | some (w, h) => nops F r (nput e d w) h Q
  | none => False
@[simp] theorem ngo_some {d : Option Nat} {r : List O} {Q : NEnv → NHeap → Prop} {w : NV} : ngo F d r e Q (some (w, h)) = nops F r (nput e d w) h Q := (rfl)
/-- Behind a call, the rest. -/
def ncont (F : Nat → Option Fun) (d : Option Nat) (r : List O) (e : NEnv) (Q : NEnv → NHeap → Prop) (w : NV) (h : NHeap) : Prop := nops F r (nput e d w) h Q
@[simp] theorem ncont_eq {d : Option Nat} {r : List O} {Q : NEnv → NHeap → Prop} {w : NV} : ncont F d r e Q w h = nops F r (nput e d w) h Q := (rfl)
def ncallO (F : Nat → Option Fun) (f : Nat) (h : NHeap) (K : NV → NHeap → Prop) : Option (List NV) → Prop
  | some vs => NCall F f vs h K
  | none => False
@[simp] theorem ncallO_some {f : Nat} {K : NV → NHeap → Prop} {vs : List NV} : ncallO F f h K (some vs) = NCall F f vs h K := (rfl)
def ncallV (F : Nat → Option Fun) (h : NHeap) (K : NV → NHeap → Prop) : Option NV → Option (List NV) → Prop
  | some (.fn f caps), some vs => NCall F f (vs ++ caps) h K
  | _, _ => False
@[simp] theorem ncallV_some {f : Nat} {caps : List NV} {K : NV → NHeap → Prop} {vs : List NV} : ncallV F h K (some (.fn f caps)) (some vs) = NCall F f (vs ++ caps) h K := (rfl)
def ngd (F : Nat → Option Fun) (b : Bool) (d : Option Nat) (i : I) (r : List O) (e : NEnv) (h : NHeap) (Q : NEnv → NHeap → Prop) : Option NV → Prop
  | some (.v (.bool p)) => if p = b then nops F (⟨d, none, i⟩ :: r) e h Q else nops F r (nput e d unitN) h Q
  | some (.tup _) => nops F r (nput e d unitN) h Q
  | _ => False
section
variable {d : Option Nat} {i : I} {r : List O} {Q : NEnv → NHeap → Prop}
@[simp] theorem ngd_u {b : Bool} {l : List NV} : ngd F b d i r e h Q (some (.tup l)) = nops F r (nput e d unitN) h Q := (rfl)
@[simp] theorem ngd_tt : ngd F true d i r e h Q (some (.v (.bool true))) = nops F (⟨d, none, i⟩ :: r) e h Q := (rfl)
@[simp] theorem ngd_tf : ngd F true d i r e h Q (some (.v (.bool false))) = nops F r (nput e d unitN) h Q := (rfl)
@[simp] theorem ngd_ft : ngd F false d i r e h Q (some (.v (.bool true))) = nops F r (nput e d unitN) h Q := (rfl)
@[simp] theorem ngd_ff : ngd F false d i r e h Q (some (.v (.bool false))) = nops F (⟨d, none, i⟩ :: r) e h Q := (rfl)
theorem ngdT_dec {p : Prop} [Decidable p] (h1 : p → nops F (⟨d, none, i⟩ :: r) e h Q) (h2 : ¬ p → nops F r (nput e d unitN) h Q) : ngd F true d i r e h Q (some (.v (.bool (decide p)))) := by
  by_cases hp : p <;> simp only [hp, decide_true, decide_false, ngd_tt, ngd_tf]
  · exact h1 hp
  · exact h2 hp
theorem ngdF_dec {p : Prop} [Decidable p] (h1 : p → nops F r (nput e d unitN) h Q) (h2 : ¬ p → nops F (⟨d, none, i⟩ :: r) e h Q) : ngd F false d i r e h Q (some (.v (.bool (decide p)))) := by
  by_cases hp : p <;> simp only [hp, decide_true, decide_false, ngd_ft, ngd_ff]
  · exact h1 hp
  · exact h2 hp
theorem ngdT_bool {p : Bool} (h1 : p = true → nops F (⟨d, none, i⟩ :: r) e h Q) (h2 : p = false → nops F r (nput e d unitN) h Q) : ngd F true d i r e h Q (some (.v (.bool p))) := by
  cases p
  · exact h2 rfl
  · exact h1 rfl
theorem ngdF_bool {p : Bool} (h1 : p = true → nops F r (nput e d unitN) h Q) (h2 : p = false → nops F (⟨d, none, i⟩ :: r) e h Q) : ngd F false d i r e h Q (some (.v (.bool p))) := by
  cases p
  · exact h2 rfl
  · exact h1 rfl
@[simp] theorem nops_nil : nops F [] e h Q = Q e h := (rfl)
@[simp] theorem nops_guard {t : Nat} {b : Bool} : nops F (⟨d, some (t, b), i⟩ :: r) e h Q = ngd F b d i r e h Q (nlook e t) := by
  unfold ngd
  rfl
@[simp] theorem nops_call {f : Nat} {xs : List X} : nops F (⟨d, none, .call f xs⟩ :: r) e h Q = ncallO F f h (ncont F d r e Q) (nevs e xs) := by
  unfold ncallO
  rfl
@[simp] theorem nops_callv {fx : X} {xs : List X} : nops F (⟨d, none, .callv fx xs⟩ :: r) e h Q = ncallV F h (ncont F d r e Q) (nev e fx) (nevs e xs) := by
  unfold ncallV
  rfl
@[simp] theorem nops_mov (x : X) : nops F (⟨d, none, .mov x⟩ :: r) e h Q = ngo F d r e Q (nap1 (nmov h) (nev e x)) := by
  unfold ngo
  rfl
@[simp] theorem nops_pick (c a b : X) : nops F (⟨d, none, .pick c a b⟩ :: r) e h Q = ngo F d r e Q (nap3 (npick h) (nev e c) (nev e a) (nev e b)) := by
  unfold ngo
  rfl
@[simp] theorem nops_alloc (es : Nat) (z : List Value) : nops F (⟨d, none, .alloc es z⟩ :: r) e h Q = ngo F d r e Q (nalloc h es (nvCs z)) := by
  unfold ngo
  rfl
@[simp] theorem nops_box (n : Nat) (x : X) : nops F (⟨d, none, .box n x⟩ :: r) e h Q = ngo F d r e Q (nap1 (nbox h n) (nev e x)) := by
  unfold ngo
  rfl
@[simp] theorem nops_build (z : List Value) (ps : List (Nat × Nat × X)) : nops F (⟨d, none, .build z ps⟩ :: r) e h Q = ngo F d r e Q (nbuild h (nvCs z) (nevp e ps)) := by
  unfold ngo
  rfl
@[simp] theorem nops_bsl (es : Nat) (z : List Value) (m : Nat) (ps : List (Nat × X)) : nops F (⟨d, none, .bsl es z m ps⟩ :: r) e h Q = ngo F d r e Q (nbsl h es m (nvCs z) (nevq e ps)) := by
  unfold ngo
  rfl
@[simp] theorem nops_load (agg : Bool) (n : Nat) (a : X) : nops F (⟨d, none, .load agg n a⟩ :: r) e h Q = ngo F d r e Q (nap1 (nload h agg n) (nev e a)) := by
  unfold ngo
  rfl
@[simp] theorem nops_store (n : Nat) (a x : X) : nops F (⟨d, none, .store n a x⟩ :: r) e h Q = ngo F d r e Q (nap2 (nstore h n) (nev e a) (nev e x)) := by
  unfold ngo
  rfl
@[simp] theorem nops_nilck (x : X) : nops F (⟨d, none, .nilck x⟩ :: r) e h Q = ngo F d r e Q (nap1 (nnilck h) (nev e x)) := by
  unfold ngo
  rfl
@[simp] theorem nops_bin (o : BinOp) (x y : X) : nops F (⟨d, none, .bin o x y⟩ :: r) e h Q = ngo F d r e Q (nap2 (nbin h o) (nev e x) (nev e y)) := by
  unfold ngo
  rfl
@[simp] theorem nops_eqb (q : Bool) (x y : X) : nops F (⟨d, none, .eqb q x y⟩ :: r) e h Q = ngo F d r e Q (nap2 (neqb h q) (nev e x) (nev e y)) := by
  unfold ngo
  rfl
@[simp] theorem nops_eqs (q : Bool) (ks : List Nat) (x y : X) : nops F (⟨d, none, .eqs q ks x y⟩ :: r) e h Q = ngo F d r e Q (nap2 (neqs h q ks) (nev e x) (nev e y)) := by
  unfold ngo
  rfl
@[simp] theorem nops_eqp (q : Bool) (x y : X) : nops F (⟨d, none, .eqp q x y⟩ :: r) e h Q = ngo F d r e Q (nap2 (neqp h q) (nev e x) (nev e y)) := by
  unfold ngo
  rfl
@[simp] theorem nops_un (o : UnOp) (x : X) : nops F (⟨d, none, .un o x⟩ :: r) e h Q = ngo F d r e Q (nap1 (nun h o) (nev e x)) := by
  unfold ngo
  rfl
@[simp] theorem nops_conv (kd : IntKind) (x : X) : nops F (⟨d, none, .conv kd x⟩ :: r) e h Q = ngo F d r e Q (nap1 (nconv h kd) (nev e x)) := by
  unfold ngo
  rfl
@[simp] theorem nops_s2b (x : X) : nops F (⟨d, none, .s2b x⟩ :: r) e h Q = ngo F d r e Q (nap1 (ns2b h) (nev e x)) := by
  unfold ngo
  rfl
@[simp] theorem nops_b2s (x : X) : nops F (⟨d, none, .b2s x⟩ :: r) e h Q = ngo F d r e Q (nap1 (nb2s h) (nev e x)) := by
  unfold ngo
  rfl
@[simp] theorem nops_mki (t : Nat) (x : X) : nops F (⟨d, none, .mki t x⟩ :: r) e h Q = ngo F d r e Q (nap1 (nmki h t) (nev e x)) := by
  unfold ngo
  rfl
@[simp] theorem nops_mkf (f : Nat) (cs : List X) : nops F (⟨d, none, .mkf f cs⟩ :: r) e h Q = ngo F d r e Q (nmkf h f (nevs e cs)) := by
  unfold ngo
  rfl
@[simp] theorem nops_mks (es : Nat) (z : List Value) (by_ : Nat) (l c : X) : nops F (⟨d, none, .mks es z by_ l c⟩ :: r) e h Q = ngo F d r e Q (nap2 (nmks h es by_ (nvCs z)) (nev e l) (nev e c)) := by
  unfold ngo
  rfl
@[simp] theorem nops_slc (es : Nat) (x : X) (lo hi top : Option X) : nops F (⟨d, none, .slc es x lo hi top⟩ :: r) e h Q = ngo F d r e Q (nslc h es (nev e x) (nevo e lo) (nevo e hi) (nevo e top)) := by
  unfold ngo
  rfl
@[simp] theorem nops_sls (x : X) (lo hi : Option X) : nops F (⟨d, none, .sls x lo hi⟩ :: r) e h Q = ngo F d r e Q (nsls h (nev e x) (nevo e lo) (nevo e hi)) := by
  unfold ngo
  rfl
@[simp] theorem nops_fa (off : Nat) (a : X) : nops F (⟨d, none, .fa off a⟩ :: r) e h Q = ngo F d r e Q (nap1 (nfa h off) (nev e a)) := by
  unfold ngo
  rfl
@[simp] theorem nops_fld (agg : Bool) (off n : Nat) (x : X) : nops F (⟨d, none, .fld agg off n x⟩ :: r) e h Q = ngo F d r e Q (nap1 (nfld h agg off n) (nev e x)) := by
  unfold ngo
  rfl
@[simp] theorem nops_ia (es : Nat) (x i : X) : nops F (⟨d, none, .ia es x i⟩ :: r) e h Q = ngo F d r e Q (nap2 (nia h es) (nev e x) (nev e i)) := by
  unfold ngo
  rfl
@[simp] theorem nops_idx (x i : X) : nops F (⟨d, none, .idx x i⟩ :: r) e h Q = ngo F d r e Q (nap2 (nidx h) (nev e x) (nev e i)) := by
  unfold ngo
  rfl
@[simp] theorem nops_ext (x : X) (n : Nat) : nops F (⟨d, none, .ext x n⟩ :: r) e h Q = ngo F d r e Q (nap1 (nextV h n) (nev e x)) := by
  unfold ngo
  rfl
@[simp] theorem nops_len (x : X) : nops F (⟨d, none, .len x⟩ :: r) e h Q = ngo F d r e Q (nap1 (nlen h) (nev e x)) := by
  unfold ngo
  rfl
@[simp] theorem nops_lens (x : X) : nops F (⟨d, none, .lens x⟩ :: r) e h Q = ngo F d r e Q (nap1 (nlens h) (nev e x)) := by
  unfold ngo
  rfl
@[simp] theorem nops_app (ty es by_ : Nat) (s x : X) : nops F (⟨d, none, .app ty es by_ s x⟩ :: r) e h Q = ngo F d r e Q (nap2 (napp ty es by_ h) (nev e s) (nev e x)) := by
  unfold ngo
  rfl
@[simp] theorem nops_clr (es : Nat) (z : List Value) (x : X) : nops F (⟨d, none, .clr es z x⟩ :: r) e h Q = ngo F d r e Q (nap1 (nclr h es (nvCs z)) (nev e x)) := by
  unfold ngo
  rfl
@[simp] theorem nops_mn (xs : List X) : nops F (⟨d, none, .mn xs⟩ :: r) e h Q = ngo F d r e Q (nmnL h (nevs e xs)) := by
  unfold ngo
  rfl
@[simp] theorem nops_mx (xs : List X) : nops F (⟨d, none, .mx xs⟩ :: r) e h Q = ngo F d r e Q (nmxL h (nevs e xs)) := by
  unfold ngo
  rfl
@[simp] theorem nops_p2u (x : X) : nops F (⟨d, none, .p2u x⟩ :: r) e h Q = ngo F d r e Q (nap1 (np2u h) (nev e x)) := by
  unfold ngo
  rfl
@[simp] theorem nops_u2p (ty n : Nat) (x : X) : nops F (⟨d, none, .u2p ty n x⟩ :: r) e h Q = ngo F d r e Q (nap1 (nu2p h ty n) (nev e x)) := by
  unfold ngo
  rfl
@[simp] theorem nops_noesc (f : Nat) (x : X) : nops F (⟨d, none, .noesc f x⟩ :: r) e h Q = ngo F d r e Q (nap1 (nnoesc h) (nev e x)) := by
  unfold ngo
  rfl
@[simp] theorem nops_usd (x : X) : nops F (⟨d, none, .usd x⟩ :: r) e h Q = ngo F d r e Q (nap1 (nusd h) (nev e x)) := by
  unfold ngo
  rfl
@[simp] theorem nops_uss (ty : Nat) (x n : X) : nops F (⟨d, none, .uss ty x n⟩ :: r) e h Q = ngo F d r e Q (nap2 (nuss h ty) (nev e x) (nev e n)) := by
  unfold ngo
  rfl
end
section
variable {Q : Out → NEnv → NHeap → Prop}
@[simp] theorem nreg_eq {keep : List Nat} : nreg keep Q e h = Q .nrm (nkeep e keep) h := (rfl)
@[simp] theorem nregD_eq {keep : List Nat} {np : Nat} {l : List (Nat × LTag)} {b : List (Nat × Nat × List Nat × Bool)} : nregD keep Q ⟨e, h, np, l, b⟩ = Q .nrm (nkeep e keep) h := (rfl)
/-- Behind a piece that ends as it should, the next. -/
def nseq (F : Nat → Option Fun) (b : C) (Q : Out → NEnv → NHeap → Prop) : Out → NEnv → NHeap → Prop := nThen (fun e h => nwp F b e h Q) Q
@[simp] theorem nseq_nrm {b : C} : nseq F b Q .nrm e h = nwp F b e h Q := (rfl)
@[simp] theorem nseq_ret {b : C} : nseq F b Q .ret e h = Q .ret e h := (rfl)
@[simp] theorem nseq_ex {b : C} {id : Nat} : nseq F b Q (.ex id) e h = Q (.ex id) e h := (rfl)
@[simp] theorem nround_nrm {c : C} : nround F c Q .nrm e h = NWp F (.loop c) e h Q := (rfl)
@[simp] theorem nround_ret {c : C} : nround F c Q .ret e h = Q .ret e h := (rfl)
@[simp] theorem nround_ex {c : C} {id : Nat} : nround F c Q (.ex id) e h = Q (.ex id) e h := (rfl)
@[simp] theorem nInBlk_nrm {i : Nat} : nInBlk i Q .nrm e h = Q .nrm e h := (rfl)
@[simp] theorem nInBlk_ret {i : Nat} : nInBlk i Q .ret e h = Q .ret e h := (rfl)
@[simp] theorem nInBlk_ex {i j : Nat} : nInBlk i Q (.ex j) e h = if j = i then Q .nrm e h else Q (.ex j) e h := (rfl)
def ncond (F : Nat → Option Fun) (a b : C) (e : NEnv) (h : NHeap) (Q : Out → NEnv → NHeap → Prop) : Option NV → Prop
  | some (.v (.bool true)) => nwp F a e h Q
  | some (.v (.bool false)) => nwp F b e h Q
  | _ => False
@[simp] theorem ncond_t {a b : C} : ncond F a b e h Q (some (.v (.bool true))) = nwp F a e h Q := (rfl)
@[simp] theorem ncond_f {a b : C} : ncond F a b e h Q (some (.v (.bool false))) = nwp F b e h Q := (rfl)
theorem ncond_dec {a b : C} {p : Prop} [Decidable p] (h1 : p → nwp F a e h Q) (h2 : ¬ p → nwp F b e h Q) : ncond F a b e h Q (some (.v (.bool (decide p)))) := by
  by_cases hp : p <;> simp [hp, h1, h2]
theorem ncond_bool {a b : C} {p : Bool} (h1 : p = true → nwp F a e h Q) (h2 : p = false → nwp F b e h Q) : ncond F a b e h Q (some (.v (.bool p))) := by
  cases p <;> simp [h1, h2]
@[simp] theorem nwp_reg {ops : List O} {keep : List Nat} : nwp F (.reg ops keep) e h Q = nops F ops e h (nreg keep Q) := (rfl)
@[simp] theorem nwp_dreg {ops : List D} {keep : List Nat} : nwp F (.dreg ops keep) e h Q = nds F 0 ops ⟨e, h, h.nx, [], []⟩ (nregD keep Q) := (rfl)
@[simp] theorem nwp_seq {a b : C} : nwp F (.seq a b) e h Q = nwp F a e h (nseq F b Q) := (rfl)
@[simp] theorem nwp_cond {x : X} {a b : C} : nwp F (.cond x a b) e h Q = ncond F a b e h Q (nev e x) := by
  unfold ncond
  rfl
@[simp] theorem nwp_blk {id : Nat} {c : C} : nwp F (.blk id c) e h Q = nwp F c e h (nInBlk id Q) := (rfl)
@[simp] theorem nwp_loop {c : C} : nwp F (.loop c) e h Q = NWp F (.loop c) e h Q := (rfl)
@[simp] theorem nwp_exit {id : Nat} : nwp F (.exit id) e h Q = Q (.ex id) e h := (rfl)
@[simp] theorem nwp_ret : nwp F .ret e h Q = Q .ret e h := (rfl)
@[simp] theorem nwp_skip : nwp F .skip e h Q = Q .nrm e h := (rfl)
end
section
variable {Q : NV → NHeap → Prop} {res : List R}
@[simp] theorem nbody_nrm : nbody res Q .nrm e h = nback Q h (nresOf e h res) := (rfl)
@[simp] theorem nbody_ret : nbody res Q .ret e h = nback Q h (nresOf e h res) := (rfl)
@[simp] theorem nback_one {w : NV} : nback Q h (some [w]) = Q w h := (rfl)
@[simp] theorem nback_nil : nback Q h (some []) = Q (.tup []) h := (rfl)
@[simp] theorem nback_two {a b : NV} {l : List NV} : nback Q h (some (a :: b :: l)) = if (a :: b :: l).all isFlat1 = true then Q (.tup (a :: b :: l)) h else False := by
  have e : nresV (a :: b :: l) = if (a :: b :: l).all isFlat1 = true then some (.tup (a :: b :: l)) else none := (rfl)
  simp only [nback, e]
  by_cases hc : (a :: b :: l).all isFlat1 = true <;> simp [hc]
end
end
/-! ### Regions that draw their order -/
section
variable {F : Nat → Option Fun} {k : Nat} {d : Option Nat} {r : List D} {e : NEnv} {h : NHeap} {np : Nat} {l : List (Nat × LTag)} {b : List (Nat × Nat × List Nat × Bool)} {chk : List Nat} {Q : NDS → Prop}
def ndc (F : Nat → Option Fun) (k : Nat) (d : Option Nat) (r : List D) (e : NEnv) (h : NHeap) (np : Nat) (l : List (Nat × LTag)) (b : List (Nat × Nat × List Nat × Bool)) (Q : NDS → Prop) : NRes → Prop
  | some (w, _) => nds F (k + 1) r ⟨nput e d w, h, np, l, b⟩ Q
  | none => False
@[simp] theorem ndc_some {w : NV} {h1 : NHeap} : ndc F k d r e h np l b Q (some (w, h1)) = nds F (k + 1) r ⟨nput e d w, h, np, l, b⟩ Q := (rfl)
def nda0 (F : Nat → Option Fun) (k : Nat) (d : Option Nat) (r : List D) (e : NEnv) (np : Nat) (l : List (Nat × LTag)) (b : List (Nat × Nat × List Nat × Bool)) (Q : NDS → Prop) : NRes → Prop
  | some (w, h) => nds F (k + 1) r ⟨nput e d w, h, np, l, b⟩ Q
  | none => False
@[simp] theorem nda0_some {w : NV} : nda0 F k d r e np l b Q (some (w, h)) = nds F (k + 1) r ⟨nput e d w, h, np, l, b⟩ Q := (rfl)
def nda (F : Nat → Option Fun) (k : Nat) (d : Option Nat) (chk : List Nat) (r : List D) (e : NEnv) (np : Nat) (l : List (Nat × LTag)) (b : List (Nat × Nat × List Nat × Bool)) (Q : NDS → Prop) (T : List Nat) : NRes → Prop
  | some (w, h) => chkA l T chk ∧ nds F (k + 1) r ⟨nput e d w, h, h.nx, killL T l, (k, np, T, false) :: moreB T false b⟩ Q
  | none => False
@[simp] theorem nda_some {w : NV} {T : List Nat} : nda F k d chk r e np l b Q T (some (w, h)) = (chkA l T chk ∧ nds F (k + 1) r ⟨nput e d w, h, h.nx, killL T l, (k, np, T, false) :: moreB T false b⟩ Q) := (rfl)
def ndl (F : Nat → Option Fun) (k : Nat) (d : Option Nat) (chk : List Nat) (r : List D) (e : NEnv) (h : NHeap) (np : Nat) (l : List (Nat × LTag)) (b : List (Nat × Nat × List Nat × Bool)) (Q : NDS → Prop) : Option LTag → NRes → Prop
  | none, some (w, _) => nds F (k + 1) r ⟨nput e d w, h, np, l, b⟩ Q
  | some t, some (w, _) => tagNp np t ∧ chkL b t chk ∧ nds F (k + 1) r ⟨nput e d w, h, np, (k, t) :: l, b⟩ Q
  | _, none => False
@[simp] theorem ndl_none {w : NV} {h1 : NHeap} : ndl F k d chk r e h np l b Q none (some (w, h1)) = nds F (k + 1) r ⟨nput e d w, h, np, l, b⟩ Q := (rfl)
@[simp] theorem ndl_some {t : LTag} {w : NV} {h1 : NHeap} : ndl F k d chk r e h np l b Q (some t) (some (w, h1)) = (tagNp np t ∧ chkL b t chk ∧ nds F (k + 1) r ⟨nput e d w, h, np, (k, t) :: l, b⟩ Q) := (rfl)
/-- Behind an operation of such a region, the rest. -/
def ndnext (F : Nat → Option Fun) (k : Nat) (r : List D) (Q : NDS → Prop) (s : NDS) : Prop := nds F k r s Q
@[simp] theorem ndnext_eq {s : NDS} : ndnext F k r Q s = nds F k r s Q := (rfl)
@[simp] theorem ndK_eq {K : NDS → Prop} {T : List Nat} {g : Bool} {w : NV} {h1 : NHeap} : ndK k d chk ⟨e, h, np, l, b⟩ K T g w h1 = (chkA l T chk ∧ K ⟨nput e d w, h1, h1.nx, killL T l, (k, np, T, g) :: moreB T g b⟩) := (rfl)
def ndcallO (F : Nat → Option Fun) (f : Nat) (h : NHeap) (K : List Nat → Bool → NV → NHeap → Prop) : Option (List NV) → Prop
  | some vs => NCallD F f vs h K
  | none => False
@[simp] theorem ndcallO_some {f : Nat} {K : List Nat → Bool → NV → NHeap → Prop} {vs : List NV} : ndcallO F f h K (some vs) = NCallD F f vs h K := (rfl)
def ndcallV (F : Nat → Option Fun) (h : NHeap) (K : List Nat → Bool → NV → NHeap → Prop) : Option NV → Option (List NV) → Prop
  | some (.fn f caps), some vs => NCallD F f (vs ++ caps) h K
  | _, _ => False
@[simp] theorem ndcallV_some {f : Nat} {caps : List NV} {K : List Nat → Bool → NV → NHeap → Prop} {vs : List NV} : ndcallV F h K (some (.fn f caps)) (some vs) = NCallD F f (vs ++ caps) h K := (rfl)
def ndgd (F : Nat → Option Fun) (p : Bool) (k : Nat) (d : Option Nat) (i : I) (chk : List Nat) (r : List D) (s : NDS) (Q : NDS → Prop) : Option NV → Prop
  | some (.v (.bool q)) => if q = p then nds F k (⟨⟨d, none, i⟩, chk⟩ :: r) s Q else nds F (k + 1) r { s with e := nput s.e d unitN } Q
  | some (.tup _) => nds F (k + 1) r { s with e := nput s.e d unitN } Q
  | _ => False
@[simp] theorem ndgd_u {i : I} {p : Bool} {x : List NV} : ndgd F p k d i chk r ⟨e, h, np, l, b⟩ Q (some (.tup x)) = nds F (k + 1) r ⟨nput e d unitN, h, np, l, b⟩ Q := (rfl)
@[simp] theorem ndgd_tt {i : I} : ndgd F true k d i chk r ⟨e, h, np, l, b⟩ Q (some (.v (.bool true))) = nds F k (⟨⟨d, none, i⟩, chk⟩ :: r) ⟨e, h, np, l, b⟩ Q := (rfl)
@[simp] theorem ndgd_tf {i : I} : ndgd F true k d i chk r ⟨e, h, np, l, b⟩ Q (some (.v (.bool false))) = nds F (k + 1) r ⟨nput e d unitN, h, np, l, b⟩ Q := (rfl)
@[simp] theorem ndgd_ft {i : I} : ndgd F false k d i chk r ⟨e, h, np, l, b⟩ Q (some (.v (.bool true))) = nds F (k + 1) r ⟨nput e d unitN, h, np, l, b⟩ Q := (rfl)
@[simp] theorem ndgd_ff {i : I} : ndgd F false k d i chk r ⟨e, h, np, l, b⟩ Q (some (.v (.bool false))) = nds F k (⟨⟨d, none, i⟩, chk⟩ :: r) ⟨e, h, np, l, b⟩ Q := (rfl)
theorem ndgdT_dec {i : I} {p : Prop} [Decidable p] (h1 : p → nds F k (⟨⟨d, none, i⟩, chk⟩ :: r) ⟨e, h, np, l, b⟩ Q) (h2 : ¬ p → nds F (k + 1) r ⟨nput e d unitN, h, np, l, b⟩ Q) : ndgd F true k d i chk r ⟨e, h, np, l, b⟩ Q (some (.v (.bool (decide p)))) := by
  by_cases hp : p <;> simp only [hp, decide_true, decide_false, ndgd_tt, ndgd_tf]
  · exact h1 hp
  · exact h2 hp
theorem ndgdF_dec {i : I} {p : Prop} [Decidable p] (h1 : p → nds F (k + 1) r ⟨nput e d unitN, h, np, l, b⟩ Q) (h2 : ¬ p → nds F k (⟨⟨d, none, i⟩, chk⟩ :: r) ⟨e, h, np, l, b⟩ Q) : ndgd F false k d i chk r ⟨e, h, np, l, b⟩ Q (some (.v (.bool (decide p)))) := by
  by_cases hp : p <;> simp only [hp, decide_true, decide_false, ndgd_ft, ndgd_ff]
  · exact h1 hp
  · exact h2 hp
theorem ndgdT_bool {i : I} {p : Bool} (h1 : p = true → nds F k (⟨⟨d, none, i⟩, chk⟩ :: r) ⟨e, h, np, l, b⟩ Q) (h2 : p = false → nds F (k + 1) r ⟨nput e d unitN, h, np, l, b⟩ Q) : ndgd F true k d i chk r ⟨e, h, np, l, b⟩ Q (some (.v (.bool p))) := by
  cases p
  · exact h2 rfl
  · exact h1 rfl
theorem ndgdF_bool {i : I} {p : Bool} (h1 : p = true → nds F (k + 1) r ⟨nput e d unitN, h, np, l, b⟩ Q) (h2 : p = false → nds F k (⟨⟨d, none, i⟩, chk⟩ :: r) ⟨e, h, np, l, b⟩ Q) : ndgd F false k d i chk r ⟨e, h, np, l, b⟩ Q (some (.v (.bool p))) := by
  cases p
  · exact h2 rfl
  · exact h1 rfl
@[simp] theorem nds_nil {s : NDS} : nds F k [] s Q = Q s := (rfl)
@[simp] theorem nds_guard {t : Nat} {p : Bool} {i : I} : nds F k (⟨⟨d, some (t, p), i⟩, chk⟩ :: r) ⟨e, h, np, l, b⟩ Q = ndgd F p k d i chk r ⟨e, h, np, l, b⟩ Q (nlook e t) := by
  unfold ndgd
  rfl
@[simp] theorem nds_call {f : Nat} {xs : List X} : nds F k (⟨⟨d, none, .call f xs⟩, chk⟩ :: r) ⟨e, h, np, l, b⟩ Q = ndcallO F f h (ndK k d chk ⟨e, h, np, l, b⟩ (ndnext F (k + 1) r Q)) (nevs e xs) := by
  unfold ndcallO
  rfl
@[simp] theorem nds_callv {fx : X} {xs : List X} : nds F k (⟨⟨d, none, .callv fx xs⟩, chk⟩ :: r) ⟨e, h, np, l, b⟩ Q = ndcallV F h (ndK k d chk ⟨e, h, np, l, b⟩ (ndnext F (k + 1) r Q)) (nev e fx) (nevs e xs) := by
  unfold ndcallV
  rfl
def tagL : Option NV → Option LTag
  | some (.ptr r _ _) => some (.own r)
  | some (.fptr _ _ _ _) => some .frz
  | _ => none
@[simp] theorem tagL_ptr {r i o : Nat} : tagL (some (.ptr r i o)) = some (.own r) := (rfl)
@[simp] theorem tagL_fptr {s : Sh} {x : List (Dat s)} {i o : Nat} : tagL (some (.fptr s x i o)) = some .frz := (rfl)
def tagS : Option NV → Option LTag
  | some (.sl r _ _ c) => if c = 0 then none else some (.own r)
  | some (.fsl _ _) => some .frz
  | _ => none
@[simp] theorem tagS_sl {r i n c : Nat} : tagS (some (.sl r i n c)) = if c = 0 then none else some (.own r) := (rfl)
@[simp] theorem tagS_fsl {s : Sh} {x : List (Dat s)} : tagS (some (.fsl s x)) = some .frz := (rfl)
@[simp] theorem tagS_nils : tagS (some .nils) = none := (rfl)
@[simp] theorem tagS_emp {w : Nat} : tagS (some (.emp w)) = none := (rfl)
def tchP : Option NV → List Nat
  | some (.ptr r _ _) => [r]
  | _ => []
def tchS : Option NV → List Nat
  | some (.sl r _ _ _) => [r]
  | _ => []
@[simp] theorem tchP_ptr {r i o : Nat} : tchP (some (.ptr r i o)) = [r] := (rfl)
@[simp] theorem tchP_v {x : Value} : tchP (some (.v x)) = [] := (rfl)
@[simp] theorem tchS_sl {r i n c : Nat} : tchS (some (.sl r i n c)) = [r] := (rfl)
@[simp] theorem tchS_nils : tchS (some .nils) = [] := (rfl)
@[simp] theorem tchS_emp {w : Nat} : tchS (some (.emp w)) = [] := (rfl)
@[simp] theorem tchS_fsl {s : Sh} {x : List (Dat s)} : tchS (some (.fsl s x)) = [] := rfl
@[simp] theorem nds_mov (x : X) : nds F k (⟨⟨d, none, .mov x⟩, chk⟩ :: r) ⟨e, h, np, l, b⟩ Q = ndc F k d r e h np l b Q (nap1 (nmov h) (nev e x)) := by
  unfold ndc
  cases hx : nap1 (nmov h) (nev e x) <;> simp [nds, ndstep, nrun, hx, I.cls]
@[simp] theorem nds_pick (c a b1 : X) : nds F k (⟨⟨d, none, .pick c a b1⟩, chk⟩ :: r) ⟨e, h, np, l, b⟩ Q = ndc F k d r e h np l b Q (nap3 (npick h) (nev e c) (nev e a) (nev e b1)) := by
  unfold ndc
  cases hx : nap3 (npick h) (nev e c) (nev e a) (nev e b1) <;> simp [nds, ndstep, nrun, hx, I.cls]
@[simp] theorem nds_alloc (es : Nat) (z : List Value) : nds F k (⟨⟨d, none, .alloc es z⟩, chk⟩ :: r) ⟨e, h, np, l, b⟩ Q = nda0 F k d r e np l b Q (nalloc h es (nvCs z)) := by
  unfold nda0
  cases hx : nalloc h es (nvCs z) <;> simp [nds, ndstep, nrun, hx, I.cls]
@[simp] theorem nds_box (n : Nat) (x : X) : nds F k (⟨⟨d, none, .box n x⟩, chk⟩ :: r) ⟨e, h, np, l, b⟩ Q = nda F k d chk r e np l b Q [] (nap1 (nbox h n) (nev e x)) := by
  have ht : ntouch e (.box n x) = [] := rfl
  unfold nda
  cases hx : nap1 (nbox h n) (nev e x) <;> simp [nds, ndstep, nrun, hx, I.cls, ht, ndK, ndact]
@[simp] theorem nds_build (z : List Value) (ps : List (Nat × Nat × X)) : nds F k (⟨⟨d, none, .build z ps⟩, chk⟩ :: r) ⟨e, h, np, l, b⟩ Q = ndc F k d r e h np l b Q (nbuild h (nvCs z) (nevp e ps)) := by
  unfold ndc
  cases hx : nbuild h (nvCs z) (nevp e ps) <;> simp [nds, ndstep, nrun, hx, I.cls]
@[simp] theorem nds_bsl (es : Nat) (z : List Value) (m : Nat) (ps : List (Nat × X)) : nds F k (⟨⟨d, none, .bsl es z m ps⟩, chk⟩ :: r) ⟨e, h, np, l, b⟩ Q = nda F k d chk r e np l b Q [] (nbsl h es m (nvCs z) (nevq e ps)) := by
  have ht : ntouch e (.bsl es z m ps) = [] := rfl
  unfold nda
  cases hx : nbsl h es m (nvCs z) (nevq e ps) <;> simp [nds, ndstep, nrun, hx, I.cls, ht, ndK, ndact]
@[simp] theorem nds_load (agg : Bool) (n : Nat) (a : X) : nds F k (⟨⟨d, none, .load agg n a⟩, chk⟩ :: r) ⟨e, h, np, l, b⟩ Q = ndl F k d chk r e h np l b Q (tagL (nev e a)) (nap1 (nload h agg n) (nev e a)) := by
  have ht : ntag e (.load agg n a) = tagL (nev e a) := rfl
  cases hx : nap1 (nload h agg n) (nev e a) <;> cases hy : tagL (nev e a) <;> simp [nds, ndstep, nrun, hx, I.cls, ht, hy, ndl]
@[simp] theorem nds_store (n : Nat) (a x : X) : nds F k (⟨⟨d, none, .store n a x⟩, chk⟩ :: r) ⟨e, h, np, l, b⟩ Q = nda F k d chk r e np l b Q (tchP (nev e a)) (nap2 (nstore h n) (nev e a) (nev e x)) := by
  have ht : ntouch e (.store n a x) = (tchP (nev e a)) := rfl
  unfold nda
  cases hx : nap2 (nstore h n) (nev e a) (nev e x) <;> simp [nds, ndstep, nrun, hx, I.cls, ht, ndK, ndact]
@[simp] theorem nds_nilck (x : X) : nds F k (⟨⟨d, none, .nilck x⟩, chk⟩ :: r) ⟨e, h, np, l, b⟩ Q = ndc F k d r e h np l b Q (nap1 (nnilck h) (nev e x)) := by
  unfold ndc
  cases hx : nap1 (nnilck h) (nev e x) <;> simp [nds, ndstep, nrun, hx, I.cls]
@[simp] theorem nds_bin (o : BinOp) (x y : X) : nds F k (⟨⟨d, none, .bin o x y⟩, chk⟩ :: r) ⟨e, h, np, l, b⟩ Q = ndc F k d r e h np l b Q (nap2 (nbin h o) (nev e x) (nev e y)) := by
  unfold ndc
  cases hx : nap2 (nbin h o) (nev e x) (nev e y) <;> simp [nds, ndstep, nrun, hx, I.cls]
@[simp] theorem nds_eqb (q : Bool) (x y : X) : nds F k (⟨⟨d, none, .eqb q x y⟩, chk⟩ :: r) ⟨e, h, np, l, b⟩ Q = ndc F k d r e h np l b Q (nap2 (neqb h q) (nev e x) (nev e y)) := by
  unfold ndc
  cases hx : nap2 (neqb h q) (nev e x) (nev e y) <;> simp [nds, ndstep, nrun, hx, I.cls]
@[simp] theorem nds_eqs (q : Bool) (ks : List Nat) (x y : X) : nds F k (⟨⟨d, none, .eqs q ks x y⟩, chk⟩ :: r) ⟨e, h, np, l, b⟩ Q = ndc F k d r e h np l b Q (nap2 (neqs h q ks) (nev e x) (nev e y)) := by
  unfold ndc
  cases hx : nap2 (neqs h q ks) (nev e x) (nev e y) <;> simp [nds, ndstep, nrun, hx, I.cls]
@[simp] theorem nds_eqp (q : Bool) (x y : X) : nds F k (⟨⟨d, none, .eqp q x y⟩, chk⟩ :: r) ⟨e, h, np, l, b⟩ Q = ndc F k d r e h np l b Q (nap2 (neqp h q) (nev e x) (nev e y)) := by
  unfold ndc
  cases hx : nap2 (neqp h q) (nev e x) (nev e y) <;> simp [nds, ndstep, nrun, hx, I.cls]
@[simp] theorem nds_un (o : UnOp) (x : X) : nds F k (⟨⟨d, none, .un o x⟩, chk⟩ :: r) ⟨e, h, np, l, b⟩ Q = ndc F k d r e h np l b Q (nap1 (nun h o) (nev e x)) := by
  unfold ndc
  cases hx : nap1 (nun h o) (nev e x) <;> simp [nds, ndstep, nrun, hx, I.cls]
@[simp] theorem nds_conv (kd : IntKind) (x : X) : nds F k (⟨⟨d, none, .conv kd x⟩, chk⟩ :: r) ⟨e, h, np, l, b⟩ Q = ndc F k d r e h np l b Q (nap1 (nconv h kd) (nev e x)) := by
  unfold ndc
  cases hx : nap1 (nconv h kd) (nev e x) <;> simp [nds, ndstep, nrun, hx, I.cls]
@[simp] theorem nds_s2b (x : X) : nds F k (⟨⟨d, none, .s2b x⟩, chk⟩ :: r) ⟨e, h, np, l, b⟩ Q = nda F k d chk r e np l b Q [] (nap1 (ns2b h) (nev e x)) := by
  have ht : ntouch e (.s2b x) = [] := rfl
  unfold nda
  cases hx : nap1 (ns2b h) (nev e x) <;> simp [nds, ndstep, nrun, hx, I.cls, ht, ndK, ndact]
@[simp] theorem nds_b2s (x : X) : nds F k (⟨⟨d, none, .b2s x⟩, chk⟩ :: r) ⟨e, h, np, l, b⟩ Q = nda F k d chk r e np l b Q [] (nap1 (nb2s h) (nev e x)) := by
  have ht : ntouch e (.b2s x) = [] := rfl
  unfold nda
  cases hx : nap1 (nb2s h) (nev e x) <;> simp [nds, ndstep, nrun, hx, I.cls, ht, ndK, ndact]
@[simp] theorem nds_mki (t : Nat) (x : X) : nds F k (⟨⟨d, none, .mki t x⟩, chk⟩ :: r) ⟨e, h, np, l, b⟩ Q = ndc F k d r e h np l b Q (nap1 (nmki h t) (nev e x)) := by
  unfold ndc
  cases hx : nap1 (nmki h t) (nev e x) <;> simp [nds, ndstep, nrun, hx, I.cls]
@[simp] theorem nds_mkf (f : Nat) (cs : List X) : nds F k (⟨⟨d, none, .mkf f cs⟩, chk⟩ :: r) ⟨e, h, np, l, b⟩ Q = ndc F k d r e h np l b Q (nmkf h f (nevs e cs)) := by
  unfold ndc
  cases hx : nmkf h f (nevs e cs) <;> simp [nds, ndstep, nrun, hx, I.cls]
@[simp] theorem nds_mks (es : Nat) (z : List Value) (by_ : Nat) (l1 c : X) : nds F k (⟨⟨d, none, .mks es z by_ l1 c⟩, chk⟩ :: r) ⟨e, h, np, l, b⟩ Q = nda F k d chk r e np l b Q [] (nap2 (nmks h es by_ (nvCs z)) (nev e l1) (nev e c)) := by
  have ht : ntouch e (.mks es z by_ l1 c) = [] := rfl
  unfold nda
  cases hx : nap2 (nmks h es by_ (nvCs z)) (nev e l1) (nev e c) <;> simp [nds, ndstep, nrun, hx, I.cls, ht, ndK, ndact]
@[simp] theorem nds_slc (es : Nat) (x : X) (lo hi top : Option X) : nds F k (⟨⟨d, none, .slc es x lo hi top⟩, chk⟩ :: r) ⟨e, h, np, l, b⟩ Q = ndl F k d chk r e h np l b Q (tagS (nev e x)) (nslc h es (nev e x) (nevo e lo) (nevo e hi) (nevo e top)) := by
  have ht : ntag e (.slc es x lo hi top) = tagS (nev e x) := rfl
  cases hx : nslc h es (nev e x) (nevo e lo) (nevo e hi) (nevo e top) <;> cases hy : tagS (nev e x) <;> simp [nds, ndstep, nrun, hx, I.cls, ht, hy, ndl]
@[simp] theorem nds_sls (x : X) (lo hi : Option X) : nds F k (⟨⟨d, none, .sls x lo hi⟩, chk⟩ :: r) ⟨e, h, np, l, b⟩ Q = ndc F k d r e h np l b Q (nsls h (nev e x) (nevo e lo) (nevo e hi)) := by
  unfold ndc
  cases hx : nsls h (nev e x) (nevo e lo) (nevo e hi) <;> simp [nds, ndstep, nrun, hx, I.cls]
@[simp] theorem nds_fa (off : Nat) (a : X) : nds F k (⟨⟨d, none, .fa off a⟩, chk⟩ :: r) ⟨e, h, np, l, b⟩ Q = ndc F k d r e h np l b Q (nap1 (nfa h off) (nev e a)) := by
  unfold ndc
  cases hx : nap1 (nfa h off) (nev e a) <;> simp [nds, ndstep, nrun, hx, I.cls]
@[simp] theorem nds_fld (agg : Bool) (off n : Nat) (x : X) : nds F k (⟨⟨d, none, .fld agg off n x⟩, chk⟩ :: r) ⟨e, h, np, l, b⟩ Q = ndc F k d r e h np l b Q (nap1 (nfld h agg off n) (nev e x)) := by
  unfold ndc
  cases hx : nap1 (nfld h agg off n) (nev e x) <;> simp [nds, ndstep, nrun, hx, I.cls]
@[simp] theorem nds_ia (es : Nat) (x i : X) : nds F k (⟨⟨d, none, .ia es x i⟩, chk⟩ :: r) ⟨e, h, np, l, b⟩ Q = ndc F k d r e h np l b Q (nap2 (nia h es) (nev e x) (nev e i)) := by
  unfold ndc
  cases hx : nap2 (nia h es) (nev e x) (nev e i) <;> simp [nds, ndstep, nrun, hx, I.cls]
@[simp] theorem nds_idx (x i : X) : nds F k (⟨⟨d, none, .idx x i⟩, chk⟩ :: r) ⟨e, h, np, l, b⟩ Q = ndc F k d r e h np l b Q (nap2 (nidx h) (nev e x) (nev e i)) := by
  unfold ndc
  cases hx : nap2 (nidx h) (nev e x) (nev e i) <;> simp [nds, ndstep, nrun, hx, I.cls]
@[simp] theorem nds_ext (x : X) (n : Nat) : nds F k (⟨⟨d, none, .ext x n⟩, chk⟩ :: r) ⟨e, h, np, l, b⟩ Q = ndc F k d r e h np l b Q (nap1 (nextV h n) (nev e x)) := by
  unfold ndc
  cases hx : nap1 (nextV h n) (nev e x) <;> simp [nds, ndstep, nrun, hx, I.cls]
@[simp] theorem nds_len (x : X) : nds F k (⟨⟨d, none, .len x⟩, chk⟩ :: r) ⟨e, h, np, l, b⟩ Q = ndc F k d r e h np l b Q (nap1 (nlen h) (nev e x)) := by
  unfold ndc
  cases hx : nap1 (nlen h) (nev e x) <;> simp [nds, ndstep, nrun, hx, I.cls]
@[simp] theorem nds_lens (x : X) : nds F k (⟨⟨d, none, .lens x⟩, chk⟩ :: r) ⟨e, h, np, l, b⟩ Q = ndc F k d r e h np l b Q (nap1 (nlens h) (nev e x)) := by
  unfold ndc
  cases hx : nap1 (nlens h) (nev e x) <;> simp [nds, ndstep, nrun, hx, I.cls]
@[simp] theorem nds_app (ty es by_ : Nat) (s x : X) : nds F k (⟨⟨d, none, .app ty es by_ s x⟩, chk⟩ :: r) ⟨e, h, np, l, b⟩ Q = nda F k d chk r e np l b Q (tchS (nev e s)) (nap2 (napp ty es by_ h) (nev e s) (nev e x)) := by
  have ht : ntouch e (.app ty es by_ s x) = (tchS (nev e s)) := rfl
  unfold nda
  cases hx : nap2 (napp ty es by_ h) (nev e s) (nev e x) <;> simp [nds, ndstep, nrun, hx, I.cls, ht, ndK, ndact]
@[simp] theorem nds_clr (es : Nat) (z : List Value) (x : X) : nds F k (⟨⟨d, none, .clr es z x⟩, chk⟩ :: r) ⟨e, h, np, l, b⟩ Q = nda F k d chk r e np l b Q (tchS (nev e x)) (nap1 (nclr h es (nvCs z)) (nev e x)) := by
  have ht : ntouch e (.clr es z x) = (tchS (nev e x)) := rfl
  unfold nda
  cases hx : nap1 (nclr h es (nvCs z)) (nev e x) <;> simp [nds, ndstep, nrun, hx, I.cls, ht, ndK, ndact]
@[simp] theorem nds_mn (xs : List X) : nds F k (⟨⟨d, none, .mn xs⟩, chk⟩ :: r) ⟨e, h, np, l, b⟩ Q = ndc F k d r e h np l b Q (nmnL h (nevs e xs)) := by
  unfold ndc
  cases hx : nmnL h (nevs e xs) <;> simp [nds, ndstep, nrun, hx, I.cls]
@[simp] theorem nds_mx (xs : List X) : nds F k (⟨⟨d, none, .mx xs⟩, chk⟩ :: r) ⟨e, h, np, l, b⟩ Q = ndc F k d r e h np l b Q (nmxL h (nevs e xs)) := by
  unfold ndc
  cases hx : nmxL h (nevs e xs) <;> simp [nds, ndstep, nrun, hx, I.cls]
@[simp] theorem nds_p2u (x : X) : nds F k (⟨⟨d, none, .p2u x⟩, chk⟩ :: r) ⟨e, h, np, l, b⟩ Q = nda F k d chk r e np l b Q [] (nap1 (np2u h) (nev e x)) := by
  have ht : ntouch e (.p2u x) = [] := rfl
  unfold nda
  cases hx : nap1 (np2u h) (nev e x) <;> simp [nds, ndstep, nrun, hx, I.cls, ht, ndK, ndact]
@[simp] theorem nds_u2p (ty n : Nat) (x : X) : nds F k (⟨⟨d, none, .u2p ty n x⟩, chk⟩ :: r) ⟨e, h, np, l, b⟩ Q = nda F k d chk r e np l b Q [] (nap1 (nu2p h ty n) (nev e x)) := by
  have ht : ntouch e (.u2p ty n x) = [] := rfl
  unfold nda
  cases hx : nap1 (nu2p h ty n) (nev e x) <;> simp [nds, ndstep, nrun, hx, I.cls, ht, ndK, ndact]
@[simp] theorem nds_noesc (f : Nat) (x : X) : nds F k (⟨⟨d, none, .noesc f x⟩, chk⟩ :: r) ⟨e, h, np, l, b⟩ Q = ndc F k d r e h np l b Q (nap1 (nnoesc h) (nev e x)) := by
  unfold ndc
  cases hx : nap1 (nnoesc h) (nev e x) <;> simp [nds, ndstep, nrun, hx, I.cls]
@[simp] theorem nds_usd (x : X) : nds F k (⟨⟨d, none, .usd x⟩, chk⟩ :: r) ⟨e, h, np, l, b⟩ Q = ndc F k d r e h np l b Q (nap1 (nusd h) (nev e x)) := by
  unfold ndc
  cases hx : nap1 (nusd h) (nev e x) <;> simp [nds, ndstep, nrun, hx, I.cls]
@[simp] theorem nds_uss (ty : Nat) (x n : X) : nds F k (⟨⟨d, none, .uss ty x n⟩, chk⟩ :: r) ⟨e, h, np, l, b⟩ Q = nda F k d chk r e np l b Q (tchP (nev e x)) (nap2 (nuss h ty) (nev e x) (nev e n)) := by
  have ht : ntouch e (.uss ty x n) = (tchP (nev e x)) := rfl
  unfold nda
  cases hx : nap2 (nuss h ty) (nev e x) (nev e n) <;> simp [nds, ndstep, nrun, hx, I.cls, ht, ndK, ndact]
end
/-! ### Temps, rows, values -/
@[simp] theorem nlook_cons (k : Nat) (v : NV) (r : NEnv) (t : Nat) : nlook ((k, v) :: r) t = if k = t then some v else nlook r t := (rfl)
@[simp] theorem nlook_nil (t : Nat) : nlook [] t = none := (rfl)
@[simp] theorem nput_some (e : NEnv) (d : Nat) (v : NV) : nput e (some d) v = (d, v) :: e := (rfl)
@[simp] theorem nput_none (e : NEnv) (v : NV) : nput e none v = e := (rfl)
@[simp] theorem nkeep_nil (e : NEnv) : nkeep e [] = [] := (rfl)
def nkeep1 (t : Nat) (r : NEnv) : Option NV → NEnv
  | some v => (t, v) :: r
  | none => r
@[simp] theorem nkeep1_some (t : Nat) (r : NEnv) (v : NV) : nkeep1 t r (some v) = (t, v) :: r := (rfl)
@[simp] theorem nkeep1_none (t : Nat) (r : NEnv) : nkeep1 t r none = r := (rfl)
@[simp] theorem nkeep_cons (e : NEnv) (t : Nat) (r : List Nat) : nkeep e (t :: r) = nkeep1 t (nkeep e r) (nlook e t) := by
  simp only [nkeep]
  cases nlook e t <;> rfl
@[simp] theorem nset_nil (t : Nat) (x : NV) : nset [] t x = [] := (rfl)
@[simp] theorem nset_cons (k : Nat) (v : NV) (r : NEnv) (t : Nat) (x : NV) : nset ((k, v) :: r) t x = if k = t then (k, x) :: r else (k, v) :: nset r t x := (rfl)
@[simp] theorem nenum_nil (i : Nat) : nenum i [] = [] := (rfl)
@[simp] theorem nenum_cons (i : Nat) (v : NV) (r : List NV) : nenum i (v :: r) = (i, v) :: nenum (i + 1) r := (rfl)
@[simp] theorem nev_t (e : NEnv) (n : Nat) : nev e (.t n) = nlook e n := (rfl)
@[simp] theorem nev_c (e : NEnv) (v : Value) : nev e (.c v) = nvC v := (rfl)
@[simp] theorem nev_f (e : NEnv) (n : Nat) : nev e (.f n) = some (.fn n []) := (rfl)
@[simp] theorem nvC0_int (k : IntKind) (n : Int) : nvC0 (.int k n) = some (.v (.int k n)) := (rfl)
@[simp] theorem nvC0_bool (p : Bool) : nvC0 (.bool p) = some (.v (.bool p)) := (rfl)
@[simp] theorem nvC0_string (s : ByteArray) : nvC0 (.string s) = some (.v (.string s)) := (rfl)
@[simp] theorem nvC0_nilI : nvC0 .nilIface = some (.v .nilIface) := (rfl)
@[simp] theorem nvC0_nilF : nvC0 .nilFunc = some (.v .nilFunc) := (rfl)
@[simp] theorem nvC0_nilP : nvC0 (.pointer none) = some (.v (.pointer none)) := (rfl)
@[simp] theorem nvC0_nilS : nvC0 (.slice none 0 0) = some .nils := (rfl)
@[simp] theorem nvC_int (k : IntKind) (n : Int) : nvC (.int k n) = some (.v (.int k n)) := (rfl)
@[simp] theorem nvC_bool (p : Bool) : nvC (.bool p) = some (.v (.bool p)) := (rfl)
@[simp] theorem nvC_string (s : ByteArray) : nvC (.string s) = some (.v (.string s)) := (rfl)
@[simp] theorem nvC_nilI : nvC .nilIface = some (.v .nilIface) := (rfl)
@[simp] theorem nvC_nilF : nvC .nilFunc = some (.v .nilFunc) := (rfl)
@[simp] theorem nvC_nilP : nvC (.pointer none) = some (.v (.pointer none)) := (rfl)
@[simp] theorem nvC_nilS : nvC (.slice none 0 0) = some .nils := (rfl)
def nagg : Option (List NV) → Option NV
  | some l => some (.agg l)
  | none => none
@[simp] theorem nagg_some (l : List NV) : nagg (some l) = some (.agg l) := (rfl)
@[simp] theorem nvC_agg (cs : Array Value) : nvC (.agg cs) = nagg (nvCs cs.toList) := by
  simp only [nvC]
  cases nvCs cs.toList <;> rfl
attribute [simp] nvCs nevs nevp nevq nevo nap1 nap2 nap3
@[simp] theorem NHeap.get_mk (n : Nat) (l : List (Nat × NRow)) (r : Nat) : NHeap.get ⟨n, l⟩ r = getR l r := (rfl)
@[simp] theorem NHeap.set_mk (n : Nat) (l : List (Nat × NRow)) (r : Nat) (x : NRow) : NHeap.set ⟨n, l⟩ r x = ⟨n, setR l r x⟩ := (rfl)
@[simp] theorem NHeap.del_mk (n : Nat) (l : List (Nat × NRow)) (r : Nat) : NHeap.del ⟨n, l⟩ r = ⟨n, delR l r⟩ := (rfl)
@[simp] theorem NHeap.push_mk (n : Nat) (l : List (Nat × NRow)) (x : NRow) : NHeap.push ⟨n, l⟩ x = ⟨n + 1, (n, x) :: l⟩ := (rfl)
@[simp] theorem NHeap.only_mk (n : Nat) (l : List (Nat × NRow)) (R : List Nat) : NHeap.only ⟨n, l⟩ R = ⟨n, onlyR R l⟩ := (rfl)
@[simp] theorem NHeap.dels_nil (h : NHeap) : h.dels [] = h := (rfl)
@[simp] theorem NHeap.dels_cons (h : NHeap) (r : Nat) (R : List Nat) : h.dels (r :: R) = (h.dels R).del r := (rfl)
attribute [simp] NHeap.nothing getR setR delR onlyR
attribute [simp] nmov nalloc nboxC nbox nbuildF nbuild nbslF nbsl nelO nelR nelF nload nstEl nstRow nstore nnilck nwith nbin neqb neqC neqCs neqsB neqs neqp nun nconv ns2b nstrS nb2sR nb2s nmki nmkf nmks nbound nbnd nslB nbndF nfslB nempB nslc nslsB nsls nfa nfldO nfld niaR nia nidx nextV nlen nlens nnewR nnew nappR nappN isSl nappE napp nclrR nclr nvals nmnV nmxV nmnL nmxL np2uR np2u nu2pR nu2p nnoesc nusd nussR nuss
attribute [simp] ncells nfill nfillE nsplice nresOf ncellO isFlat1 unitN unV Sh.width
@[simp] theorem cellsN_int (k : IntKind) (n : Int) : cellsN (.int k) n = [.v (.int k n)] := (rfl)
@[simp] theorem cellsN_bool (p : Bool) : cellsN .bool p = [.v (.bool p)] := (rfl)
@[simp] theorem cellsN_str (s : ByteArray) : cellsN .str s = [.v (.string s)] := (rfl)
@[simp] theorem cellsN_sl (s : Sh) (l : List (Dat s)) : cellsN (.sl s) l = [.fsl s l] := (rfl)
@[simp] theorem cellsN_unit (x : Unit) : cellsN .unit x = [] := (rfl)
@[simp] theorem cellsN_pair (a b : Sh) (x : Dat a × Dat b) : cellsN (.pair a b) x = cellsN a x.1 ++ cellsN b x.2 := (rfl)
@[simp] theorem npick_b (h : NHeap) (p a b : Bool) : npick h (.v (.bool p)) (.v (.bool a)) (.v (.bool b)) = some (.v (.bool (bif p then a else b)), h) := (rfl)
@[simp] theorem npick_t (h : NHeap) (a b : NV) : npick h (.v (.bool true)) a b = some (a, h) := by
  unfold npick
  split <;> simp_all
@[simp] theorem npick_f (h : NHeap) (a b : NV) : npick h (.v (.bool false)) a b = some (b, h) := by
  unfold npick
  split <;> simp_all
@[simp] theorem nout_t (h : NHeap) (n : Nat) (cs : List NV) : nout h true n cs = if cs.length = n then some (.agg cs, h) else none := (rfl)
def none1 (h : NHeap) : List NV → NRes
  | [v] => some (v, h)
  | _ => none
@[simp] theorem none1_one (h : NHeap) (v : NV) : none1 h [v] = some (v, h) := (rfl)
@[simp] theorem nout_f (h : NHeap) (n : Nat) (cs : List NV) : nout h false n cs = if cs.length = n then none1 h cs else none := by
  unfold nout none1
  split
  · split <;> simp_all
  · rfl
attribute [simp] tagOk chkA hbOk chkL killT killL moreB tagNp findN_cons
@[simp] theorem findN_nil' {α : Type} (t : Nat) : findN ([] : List (Nat × α)) t = none := (rfl)
attribute [simp] L2 idfree0 idfree1 idfree plainN0 plainN1 plainN low0 low1 low
section
variable {h : NHeap}
@[simp] theorem FrzC_v {a : NV} {x : Value} : FrzC h a (.v x) ↔ a = .v x := by simp [FrzC]
@[simp] theorem FrzC_refl {a : NV} : FrzC h a a := .inl rfl
@[simp] theorem Frz1_v {a : NV} {x : Value} : Frz1 h a (.v x) ↔ a = .v x := by simp [Frz1]
@[simp] theorem Frz1_fsl {a : NV} {s : Sh} {l : List (Dat s)} : Frz1 h a (.fsl s l) = FrzC h a (.fsl s l) := (rfl)
@[simp] theorem Frz1_agg {cs ds : List NV} : Frz1 h (.agg cs) (.agg ds) ↔ L2 (FrzC h) cs ds := by simp [Frz1]
@[simp] theorem Frz3_v {a : NV} {x : Value} : Frz3 h a (.v x) ↔ a = .v x := by simp [Frz3]
@[simp] theorem Frz3_fsl {a : NV} {s : Sh} {l : List (Dat s)} : Frz3 h a (.fsl s l) = FrzC h a (.fsl s l) := (rfl)
@[simp] theorem Frz3_agg {cs ds : List NV} : Frz3 h (.agg cs) (.agg ds) ↔ L2 (FrzC h) cs ds := by simp [Frz3, Frz1]
@[simp] theorem Frz3_tup {cs ds : List NV} : Frz3 h (.tup cs) (.tup ds) ↔ L2 (Frz1 h) cs ds := by simp [Frz3]
@[simp] theorem Frz3_fn {f : Nat} {cs ds : List NV} : Frz3 h (.fn f cs) (.fn f ds) ↔ L2 (Frz1 h) cs ds := by simp [Frz3]
@[simp] theorem FrzC_nils {s : Sh} {l : List (Dat s)} : FrzC h .nils (.fsl s l) ↔ l = [] := by
  constructor
  · rintro (e | ⟨s', l', e, k⟩)
    · cases e
    · cases e
      rcases k with k | ⟨rfl, _⟩ | ⟨r, i, n, c, row, k, _⟩
      · simp at k
      · rfl
      · simp at k
  · rintro rfl
    exact .inr ⟨s, [], rfl, .inr (.inl ⟨rfl, .inl rfl⟩)⟩
@[simp] theorem FrzC_emp {w : Nat} {s : Sh} {l : List (Dat s)} : FrzC h (.emp w) (.fsl s l) ↔ l = [] := by
  constructor
  · rintro (e | ⟨s', l', e, k⟩)
    · cases e
    · cases e
      rcases k with k | ⟨rfl, _⟩ | ⟨r, i, n, c, row, k, _⟩
      · simp at k
      · rfl
      · simp at k
  · rintro rfl
    exact .inr ⟨s, [], rfl, .inr (.inl ⟨rfl, .inr ⟨w, rfl⟩⟩)⟩
@[simp] theorem FrzC_fsl {s : Sh} {l l' : List (Dat s)} : FrzC h (.fsl s l) (.fsl s l') ↔ l = l' := by
  constructor
  · rintro (e | ⟨s', m, e, k⟩)
    · cases e; rfl
    · cases e
      rcases k with k | ⟨rfl, k | ⟨w, k⟩⟩ | ⟨r, i, n, c, row, k, _⟩ <;> simp at k
      exact k
  · rintro rfl; exact .inl rfl
theorem FrzD.refl (s : Sh) (x : Dat s) : FrzD h s x (cellsN s x) := by
  induction s with
  | int k => rfl
  | bool => rfl
  | str => rfl
  | sl s ih => exact .inl rfl
  | unit => rfl
  | pair a b iha ihb => obtain ⟨x, y⟩ := x; exact ⟨_, _, rfl, iha x, ihb y⟩
theorem L2.map_frz {s : Sh} : ∀ (l : List (Dat s)), L2 (FrzD h s) l (l.map (cellsN s))
  | [] => trivial
  | x :: l => ⟨FrzD.refl s x, L2.map_frz l⟩
def frzEls (h : NHeap) (s : Sh) (l : List (Dat s)) (els : List (List NV)) : Prop := L2 (FrzD h s) l els
@[simp] theorem frzEls_all {s : Sh} {l : List (Dat s)} : frzEls h s l (elsN s l) := L2.map_frz l
@[simp] theorem frzEls_nil {s : Sh} {l : List (Dat s)} : frzEls h s l [] ↔ l = [] := by
  cases l with
  | nil => exact ⟨fun _ => rfl, fun _ => trivial⟩
  | cons a l => exact ⟨fun k => k.elim, fun e => by cases e⟩
theorem frzEls_cons {s : Sh} {x : Dat s} {l : List (Dat s)} {c : List NV} {cs : List (List NV)} : frzEls h s (x :: l) (c :: cs) ↔ FrzD h s x c ∧ frzEls h s l cs := Iff.rfl
theorem frzEls.append {s : Sh} : ∀ {l m : List (Dat s)} {cs ds : List (List NV)}, frzEls h s l cs → frzEls h s m ds → frzEls h s (l ++ m) (cs ++ ds) := fun a b => L2.append a b
theorem FrzD.length : ∀ {s : Sh} {x : Dat s} {cs : List NV}, FrzD h s x cs → cs.length = s.width
  | .int _, _, _, k => by rw [show _ = _ from k]; rfl
  | .bool, _, _, k => by rw [show _ = _ from k]; rfl
  | .str, _, _, k => by rw [show _ = _ from k]; rfl
  | .unit, _, _, k => by rw [show _ = _ from k]; rfl
  | .pair a b, (x, y), cs, ⟨c1, c2, e, k1, k2⟩ => by rw [e, List.length_append, FrzD.length k1, FrzD.length k2]; rfl
  | .sl s, l, cs, k => by rcases k with rfl | ⟨_, rfl | ⟨w, rfl⟩⟩ | ⟨r, i, n, c, row, rfl, _⟩ <;> rfl
@[simp] theorem FrzD_int {k : IntKind} {n : Int} {cs : List NV} : FrzD h (.int k) n cs ↔ cs = [.v (.int k n)] := Iff.rfl
@[simp] theorem FrzD_bool {p : Bool} {cs : List NV} : FrzD h .bool p cs ↔ cs = [.v (.bool p)] := Iff.rfl
@[simp] theorem FrzD_str {t : ByteArray} {cs : List NV} : FrzD h .str t cs ↔ cs = [.v (.string t)] := Iff.rfl
@[simp] theorem FrzD_unit {x : Unit} {cs : List NV} : FrzD h .unit x cs ↔ cs = [] := Iff.rfl
@[simp] theorem FrzD_pair {a b : Sh} {x : Dat a × Dat b} {cs : List NV} : FrzD h (.pair a b) x cs ↔ FrzD h a x.1 (cs.take a.width) ∧ FrzD h b x.2 (cs.drop a.width) := by
  obtain ⟨x, y⟩ := x
  constructor
  · rintro ⟨c1, c2, rfl, k1, k2⟩
    have := FrzD.length k1
    rw [List.take_append_of_le_length (by omega), List.take_of_length_le (by omega), List.drop_append, List.drop_of_length_le (by omega), ← this, Nat.sub_self]
    exact ⟨k1, by simpa using k2⟩
  · rintro ⟨k1, k2⟩
    exact ⟨_, _, (List.take_append_drop _ _).symm, k1, k2⟩
@[simp] theorem FrzD_sl {s : Sh} {l : List (Dat s)} {c : NV} : FrzD h (.sl s) l [c] ↔ FrzC h c (.fsl s l) := by
  constructor
  · intro k; exact .inr ⟨s, l, rfl, k⟩
  · rintro (e | ⟨s', l', e, k⟩)
    · rw [e]; exact .inl rfl
    · cases e; exact k
def frzRow (h : NHeap) (s : Sh) (l : List (Dat s)) (i n c : Nat) : Option NRow → Prop
  | some row => row.w = s.width ∧ row.es = s.width ∧ n = List.length l ∧ n ≤ c ∧ i + n ≤ row.els.length ∧ frzEls h s l ((row.els.drop i).take n)
  | none => False
@[simp] theorem frzRow_some {s : Sh} {l : List (Dat s)} {i n c : Nat} {row : NRow} : frzRow h s l i n c (some row) ↔ row.w = s.width ∧ row.es = s.width ∧ n = List.length l ∧ n ≤ c ∧ i + n ≤ row.els.length ∧ frzEls h s l ((row.els.drop i).take n) := Iff.rfl
@[simp] theorem FrzC_sl {s : Sh} {l : List (Dat s)} {r i n c : Nat} : FrzC h (.sl r i n c) (.fsl s l) ↔ frzRow h s l i n c (h.get r) := by
  constructor
  · rintro (e | ⟨s', m, e, k⟩)
    · cases e
    · cases e
      rcases k with k | ⟨rfl, k | ⟨w, k⟩⟩ | ⟨r', i', n', c', row, k, hg, k2⟩
      · simp at k
      · simp at k
      · simp at k
      · simp at k
        obtain ⟨rfl, rfl, rfl, rfl⟩ := k
        rw [hg]
        exact k2
  · intro k
    cases hg : h.get r with
    | none => rw [hg] at k; exact k.elim
    | some row => rw [hg] at k; exact .inr ⟨s, l, rfl, .inr (.inr ⟨r, i, n, c, row, rfl, hg, k⟩)⟩
/-- A row of one's own that holds data is frozen. -/
theorem FrzC.row {s : Sh} {l : List (Dat s)} {r i n c : Nat} {row : NRow} (hg : h.get r = some row) (hw : row.w = s.width) (hes : row.es = s.width) (hn : n = List.length l) (hc : n ≤ c) (hin : i + n ≤ row.els.length) (hl : (row.els.drop i).take n = elsN s l) : FrzC h (.sl r i n c) (.fsl s l) :=
  .inr ⟨s, l, rfl, .inr (.inr ⟨r, i, n, c, row, rfl, hg, hw, hes, hn, hc, hin, by rw [hl]; exact L2.map_frz l⟩)⟩
theorem FrzC.all {s : Sh} {l : List (Dat s)} {r n c : Nat} {row : NRow} (hg : h.get r = some row) (hw : row.w = s.width) (hes : row.es = s.width) (hn : n = List.length l) (hc : n ≤ c) (hl : row.els = elsN s l) : FrzC h (.sl r 0 n c) (.fsl s l) :=
  FrzC.row hg hw hes hn hc (by rw [hl]; unfold elsN; rw [List.length_map]; omega) (by rw [hl, List.drop_zero, List.take_of_length_le (by unfold elsN; rw [List.length_map]; omega)])
end
theorem wrap_id {x : Int} (h : -9223372036854775808 ≤ x ∧ x ≤ 9223372036854775807) : IntKind.i64.wrap x = x := by
  rw [IntKind.wrap_i64]
  omega
theorem wrap_succ {n : Nat} (h : n < 9223372036854775807) : IntKind.i64.wrap ((n : Int) + 1) = ((n + 1 : Nat) : Int) := by
  rw [wrap_id (by omega)]
  rfl
/-- A round of a loop, its code laid out. -/
theorem NWp.loopE {F : Nat → Option Fun} {c c' : C} (hc : c = c') {e : NEnv} {h : NHeap} {Q : Out → NEnv → NHeap → Prop} (hk : nwp F c' e h (nround F c Q)) : NWp F (.loop c) e h Q := NWp.loop (by rw [hc] at hk ⊢; exact hk)
@[simp] theorem succ_le_self {n : Nat} : n + 1 ≤ n ↔ False := ⟨fun h => absurd h (Nat.not_succ_le_self n), False.elim⟩
theorem NWp.del {F : Nat → Option Fun} (r : Nat) {c : C} {e : NEnv} {h : NHeap} {Q : Out → NEnv → NHeap → Prop} (k : NWp F c e (h.del r) Q) : NWp F c e h Q := NWp.congr (h.del_sub r).1 (h.del_sub r).2 (fun _ _ x => x) k
attribute [simp] List.take_take
@[simp] theorem ne_up2 {n : Nat} : (n + 1 + 1 = n) ↔ False := ⟨fun h => by omega, False.elim⟩
@[simp] theorem ne_dn2 {n : Nat} : (n = n + 1 + 1) ↔ False := ⟨fun h => by omega, False.elim⟩
@[simp] theorem lt_up2 {n : Nat} : (n < n + 1 + 1) ↔ True := ⟨fun _ => trivial, fun _ => by omega⟩
@[simp] theorem ne_up3 {n : Nat} : (n + 1 + 1 + 1 = n) ↔ False := ⟨fun h => by omega, False.elim⟩
@[simp] theorem ne_dn3 {n : Nat} : (n = n + 1 + 1 + 1) ↔ False := ⟨fun h => by omega, False.elim⟩
@[simp] theorem lt_up3 {n : Nat} : (n < n + 1 + 1 + 1) ↔ True := ⟨fun _ => trivial, fun _ => by omega⟩
@[simp] theorem ne_up4 {n : Nat} : (n + 1 + 1 + 1 + 1 = n) ↔ False := ⟨fun h => by omega, False.elim⟩
@[simp] theorem ne_dn4 {n : Nat} : (n = n + 1 + 1 + 1 + 1) ↔ False := ⟨fun h => by omega, False.elim⟩
@[simp] theorem lt_up4 {n : Nat} : (n < n + 1 + 1 + 1 + 1) ↔ True := ⟨fun _ => trivial, fun _ => by omega⟩
@[simp] theorem ne_up5 {n : Nat} : (n + 1 + 1 + 1 + 1 + 1 = n) ↔ False := ⟨fun h => by omega, False.elim⟩
@[simp] theorem ne_dn5 {n : Nat} : (n = n + 1 + 1 + 1 + 1 + 1) ↔ False := ⟨fun h => by omega, False.elim⟩
@[simp] theorem lt_up5 {n : Nat} : (n < n + 1 + 1 + 1 + 1 + 1) ↔ True := ⟨fun _ => trivial, fun _ => by omega⟩
@[simp] theorem ne_up6 {n : Nat} : (n + 1 + 1 + 1 + 1 + 1 + 1 = n) ↔ False := ⟨fun h => by omega, False.elim⟩
@[simp] theorem ne_dn6 {n : Nat} : (n = n + 1 + 1 + 1 + 1 + 1 + 1) ↔ False := ⟨fun h => by omega, False.elim⟩
@[simp] theorem lt_up6 {n : Nat} : (n < n + 1 + 1 + 1 + 1 + 1 + 1) ↔ True := ⟨fun _ => trivial, fun _ => by omega⟩
@[simp] theorem ne_up7 {n : Nat} : (n + 1 + 1 + 1 + 1 + 1 + 1 + 1 = n) ↔ False := ⟨fun h => by omega, False.elim⟩
@[simp] theorem ne_dn7 {n : Nat} : (n = n + 1 + 1 + 1 + 1 + 1 + 1 + 1) ↔ False := ⟨fun h => by omega, False.elim⟩
@[simp] theorem lt_up7 {n : Nat} : (n < n + 1 + 1 + 1 + 1 + 1 + 1 + 1) ↔ True := ⟨fun _ => trivial, fun _ => by omega⟩
@[simp] theorem ne_up8 {n : Nat} : (n + 1 + 1 + 1 + 1 + 1 + 1 + 1 + 1 = n) ↔ False := ⟨fun h => by omega, False.elim⟩
@[simp] theorem ne_dn8 {n : Nat} : (n = n + 1 + 1 + 1 + 1 + 1 + 1 + 1 + 1) ↔ False := ⟨fun h => by omega, False.elim⟩
@[simp] theorem lt_up8 {n : Nat} : (n < n + 1 + 1 + 1 + 1 + 1 + 1 + 1 + 1) ↔ True := ⟨fun _ => trivial, fun _ => by omega⟩
theorem delR_none : ∀ {l : List (Nat × NRow)} {r : Nat}, getR l r = none → delR l r = l
  | [], _, _ => rfl
  | (k, row) :: l, r, h => by
    simp only [getR] at h
    split at h
    · cases h
    · rename_i hk
      simp only [delR, if_neg hk, delR_none h]
theorem NWp.pop1 {F : Nat → Option Fun} {n k : Nat} {row : NRow} {a : Nat × NRow} {l : List (Nat × NRow)} (hk : getR l k = none) {c : C} {e : NEnv} {Q : Out → NEnv → NHeap → Prop} (h : NWp F c e ⟨n, a :: l⟩ Q) : NWp F c e ⟨n, a :: (k, row) :: l⟩ Q := NWp.congr (h2 := ⟨n, a :: l⟩) rfl (fun r x hx => by
  obtain ⟨ka, ra⟩ := a
  simp only [NHeap.get, getR] at hx ⊢
  split at hx
  · rename_i h1; rw [if_pos h1]; exact hx
  · rename_i h1
    rw [if_neg h1, if_neg]
    · exact hx
    · intro e; subst e; rw [hk] at hx; cases hx) (fun _ _ x => x) h
theorem NWp.pop {F : Nat → Option Fun} {n k : Nat} {row : NRow} {l : List (Nat × NRow)} (hk : getR l k = none) {c : C} {e : NEnv} {Q : Out → NEnv → NHeap → Prop} (h : NWp F c e ⟨n, l⟩ Q) : NWp F c e ⟨n, (k, row) :: l⟩ Q := NWp.congr (h2 := ⟨n, l⟩) rfl (fun r x hx => by
  simp only [NHeap.get, getR] at hx ⊢
  rw [if_neg]
  · exact hx
  · intro e; subst e; rw [hk] at hx; cases hx) (fun _ _ x => x) h
theorem NCall.sub {F : Nat → Option Fun} {f : Nat} {vs : List NV} {h : NHeap} {Q : NV → NHeap → Prop} (k : NCall F f vs h fun w h' => ∃ h2 : NHeap, h2.sub h' ∧ Q w h2) : NCall F f vs h Q := fun φ V K H us a b =>
  (k φ V K H us a b).mono fun u H' ⟨φ', V', K', h', w, c1, c2, c3, h2, d1, d2⟩ => ⟨φ', V', K', h2, w, c1, c2.sub d1, c3, d2⟩
theorem NCallD.of {F : Nat → Option Fun} {f : Nat} {vs : List NV} {h : NHeap} {K : List Nat → Bool → NV → NHeap → Prop} {T : List Nat} {g : Bool} (k : NCallT F f vs h T g (K T g)) : NCallD F f vs h K := ⟨T, g, k⟩
/-- A call whose arguments are data already. -/
theorem PureP.call {F : Nat → Option Fun} {f : Nat} {vs : List NV} {P : NV → Prop} (k : PureP F f vs P) {h : NHeap} (hi : vs.all idfree = true) {Q : NV → NHeap → Prop} (hq : ∀ w, P w → Q w h) : NCall F f vs h Q :=
  k.callR [] (by
    have : ∀ l : List NV, L2 (Frz3 (h.only [])) l l := fun l => by
      induction l with
      | nil => exact trivial
      | cons a l ih =>
        refine ⟨?_, ih⟩
        have f0 : ∀ l : List NV, L2 (FrzC (h.only [])) l l := fun l => by
          induction l with
          | nil => exact trivial
          | cons a l ih => exact ⟨.inl rfl, ih⟩
        have f1 : ∀ a : NV, Frz1 (h.only []) a a := fun a => by
          cases a <;> first
            | exact ⟨_, rfl, f0 _⟩
            | exact .inl rfl
        have f2 : ∀ l : List NV, L2 (Frz1 (h.only [])) l l := fun l => by
          induction l with
          | nil => exact trivial
          | cons a l ih => exact ⟨f1 a, ih⟩
        cases a <;> first
          | exact ⟨_, rfl, f2 _⟩
          | (simp only [Frz3]; exact f1 _)
    exact this vs) hi hq
/-- Calls of functions of data in regions that draw their order. -/
theorem Pure.callD {F : Nat → Option Fun} {f : Nat} {vs ws : List NV} {w : NV} (k : Pure F f ws w) {h : NHeap} (R : List Nat) (hz : L2 (Frz3 (h.only R)) vs ws) (hi : ws.all idfree = true) {K : List Nat → Bool → NV → NHeap → Prop} (hq : K R true w (h.dels R)) : NCallD F f vs h K := ⟨R, true, k.callT R hz hi fun _ e => by rw [e]; exact hq⟩
theorem Pure.callDB {F : Nat → Option Fun} {f : Nat} {vs ws : List NV} {w : NV} (k : Pure F f ws w) {h : NHeap} (hz : L2 (Frz3 h) vs ws) (hi : ws.all idfree = true) (hp : plainN w = true) {K : List Nat → Bool → NV → NHeap → Prop} (hq : K [] false w h) : NCallD F f vs h K := ⟨[], false, k.callTB hz hi fun _ e => by rw [e]; exact ⟨hp, hq⟩⟩
theorem Pure.callR1 {F : Nat → Option Fun} {f : Nat} {vs ws : List NV} {w : NV} (k : Pure F f ws w) {h : NHeap} (R : List Nat) (hz : L2 (Frz3 (h.only R)) vs ws) (hi : ws.all idfree = true) {K : NV → NHeap → Prop} (hq : K w (h.dels R)) : NCall F f vs h K := k.callR R hz hi fun _ e => by rw [e]; exact hq
theorem Pure.callB1 {F : Nat → Option Fun} {f : Nat} {vs ws : List NV} {w : NV} (k : Pure F f ws w) {h : NHeap} (hz : L2 (Frz3 h) vs ws) (hi : ws.all idfree = true) (hp : plainN w = true) {K : NV → NHeap → Prop} (hq : K w h) : NCall F f vs h K := k.callB hz hi fun _ e => by rw [e]; exact ⟨hp, hq⟩
theorem Pure.call1 {F : Nat → Option Fun} {f : Nat} {vs : List NV} {w : NV} (k : Pure F f vs w) {h : NHeap} (hi : vs.all idfree = true) {Q : NV → NHeap → Prop} (hq : Q w h) : NCall F f vs h Q := k.call hi fun _ e => by rw [e]; exact hq
/-- The end of a function of data. -/
def nends (P : NV → Prop) (w : NV) (h : NHeap) : Prop := ∃ w', Frz3 h w w' ∧ idfree w' = true ∧ P w'
theorem PureP.start {F : Nat → Option Fun} {f : Nat} {m : MF} (hf : F f = some (.code m)) {vs : List NV} {P : NV → Prop} (hn : vs.length = m.na) (hk : nwp F m.body (nenum 0 vs) ⟨0, []⟩ (nbody m.res (nends P))) : PureP F f vs P := PureP.code hf hn hk
theorem nends_of {P : NV → Prop} {w : NV} {h : NHeap} {w' : NV} (h1 : Frz3 h w w') (h2 : idfree w' = true) (h3 : P w') : nends P w h := ⟨w', h1, h2, h3⟩
@[simp] theorem nends_is {w w' : NV} {h : NHeap} : nends (fun x => x = w') w h ↔ Frz3 h w w' ∧ idfree w' = true := by
  constructor
  · rintro ⟨_, h1, h2, rfl⟩; exact ⟨h1, h2⟩
  · rintro ⟨h1, h2⟩; exact ⟨_, h1, h2, rfl⟩
section
variable {s : Sh} {l m : List (Dat s)}
@[simp] theorem elsN_length : (elsN s l).length = List.length l := by unfold elsN; rw [List.length_map]
@[simp] theorem elsN_nil : elsN s [] = [] := (rfl)
@[simp] theorem elsN_eq_nil : elsN s l = [] ↔ l = [] := by unfold elsN; rw [List.map_eq_nil_iff]
theorem elsN_cons {x : Dat s} : elsN s (x :: l) = cellsN s x :: elsN s l := (rfl)
theorem elsN_append : elsN s (l ++ m) = elsN s l ++ elsN s m := by unfold elsN; rw [List.map_append]
theorem elsN_snoc {x : Dat s} : elsN s (l ++ [x]) = elsN s l ++ [cellsN s x] := by rw [elsN_append]; rfl
theorem elsN_take_succ {i : Nat} (h : i < List.length l) : elsN s (l.take (i + 1)) = elsN s (l.take i) ++ [cellsN s l[i]] := by
  rw [List.take_succ_eq_append_getElem h, elsN_snoc]
@[simp] theorem elsN_drop {i : Nat} : (elsN s l).drop i = elsN s (l.drop i) := by unfold elsN; rw [List.map_drop]
@[simp] theorem elsN_take {i : Nat} : (elsN s l).take i = elsN s (l.take i) := by unfold elsN; rw [List.map_take]
@[simp] theorem elsN_get {i : Nat} : (elsN s l)[i]? = (l[i]?).map (cellsN s) := by unfold elsN; rw [List.getElem?_map]
@[simp] theorem elsN_set {i : Nat} {x : Dat s} : (elsN s l).set i (cellsN s x) = elsN s (l.set i x) := by unfold elsN; rw [List.map_set]
end
@[simp] theorem keepTy_none (ty off : Nat) : keepTy ty off none = none := (rfl)
attribute [simp] room Int.natCast_inj
@[simp] theorem eqCell_int (k : IntKind) (a b : Int) : eqCell 0 (.int k a) (.int k b) = some (decide (a = b)) := by simp [eqCell, BEq.beq]
@[simp] theorem eqCell_bool (a b : Bool) : eqCell 1 (.bool a) (.bool b) = some (a == b) := (rfl)
@[simp] theorem eqCell_str (a b : ByteArray) : eqCell 2 (.string a) (.string b) = some (a == b) := (rfl)
theorem nends_v {P : NV → Prop} {x : Value} {h : NHeap} : nends P (.v x) h ↔ P (.v x) := by
  constructor
  · rintro ⟨w', h1, h2, h3⟩
    cases w' with
    | v y => rw [Frz3_v] at h1; cases h1; exact h3
    | fsl s l =>
      exfalso
      rcases h1 with e | ⟨s', l', e, k⟩
      · cases e
      · cases e
        rcases k with k | ⟨_, k | ⟨w, k⟩⟩ | ⟨r, i, n, c, row, k, _⟩ <;> simp at k
    | tup ds => obtain ⟨cs, e, _⟩ := h1; cases e
    | fn f ds => obtain ⟨cs, e, _⟩ := h1; cases e
    | agg ds => obtain ⟨cs, e, _⟩ := h1; cases e
    | _ => (rcases h1 with e | ⟨s', l', e, k⟩ <;> cases e)
  · exact fun h => ⟨.v x, Frz3_v.2 rfl, rfl, h⟩
end Go.Proofs.Ytnjmdkecpadehaa.M

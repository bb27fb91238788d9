/- Parts of the proof, put together: what the functions of the program answer, and plain laws. -/
import Derived.Test.YtphchobmencipaaDoorPk1

section

/- The widths of all sets. -/
namespace Go.AM
open Go.Proofs
variable {k : Nat} {R : Type}
theorem without_ltv {S v : Nat} (hS : S < 1024) (h : S.testBit v = true) : without S (2 ^ v) < S := by
  have hne : without S (2 ^ v) ≠ S := fun e => by
    have := (bit_del (S := S) (w := v) (i := v)).1 (by rw [e]; exact h)
    exact this.2 rfl
  have hle : without S (2 ^ v) ≤ S := by
    have : without S (2 ^ v) = S &&& (1023 ^^^ 2 ^ v) := by
      refine Nat.eq_of_testBit_eq fun i => ?_
      rw [testBit_without, Nat.testBit_and, Nat.testBit_xor]
      cases hi : S.testBit i with
      | false => rfl
      | true =>
        have hi10 : i < 10 := bit_lt (n := 10) hS hi
        have : (1023 : Nat).testBit i = true := by
          have h1 : (2 ^ 10 - 1 : Nat).testBit i = decide (i < 10) := Nat.testBit_two_pow_sub_one ..
          have h2 : (2 ^ 10 - 1 : Nat) = 1023 := by decide
          rw [h2] at h1
          rw [h1]; simp [hi10]
        rw [this]; simp
    rw [this]
    exact Nat.and_le_left
  omega

/-- One step of the widths. -/
noncomputable def wStep (g : List Nat) (f : Nat → Nat) (S : Nat) : Nat :=
  if S = 0 then 0 else (elts S).foldl (fun m v => min m (max (f (without S (2 ^ v))) (degN g v (without S (2 ^ v))))) g.length

noncomputable def wF (g : List Nat) : Nat → Nat → Nat
  | 0, _ => 0
  | d + 1, S => wStep g (wF g d) S

/-- The least width of an order that begins with a set. -/
noncomputable def wN (g : List Nat) (S : Nat) : Nat := wF g (S + 1) S

theorem wStep_congr {g : List Nat} {f f' : Nat → Nat} {S : Nat} (hS : S < 1024) (h : ∀ T, T < S → f T = f' T) : wStep g f S = wStep g f' S := by
  unfold wStep
  split
  · rfl
  · have : ∀ (L : List Nat) (m : Nat), (∀ v ∈ L, S.testBit v = true) → L.foldl (fun m v => min m (max (f (without S (2 ^ v))) (degN g v (without S (2 ^ v))))) m = L.foldl (fun m v => min m (max (f' (without S (2 ^ v))) (degN g v (without S (2 ^ v))))) m := by
      intro L
      induction L with
      | nil => intro m _; rfl
      | cons v L ih =>
        intro m hL
        rw [List.foldl_cons, List.foldl_cons, h _ (without_ltv hS (hL v List.mem_cons_self))]
        exact ih _ fun u hu => hL u (List.mem_cons_of_mem _ hu)
    exact this _ _ fun v hv => (mem_elts hS).1 hv

theorem wF_eq {g : List Nat} : ∀ (S d d' : Nat), S < 1024 → S < d → S < d' → wF g d S = wF g d' S := by
  intro S
  induction S using Nat.strongRecOn with
  | ind S ih =>
    intro d d' hS h h'
    obtain ⟨e, rfl⟩ : ∃ e, d = e + 1 := ⟨d - 1, by omega⟩
    obtain ⟨e', rfl⟩ : ∃ e', d' = e' + 1 := ⟨d' - 1, by omega⟩
    show wStep g (wF g e) S = wStep g (wF g e') S
    exact wStep_congr hS fun T hT => ih T hT e e' (by omega) (by omega) (by omega)

theorem wN_eq {g : List Nat} {S : Nat} (hS : S < 1024) : wN g S = wStep g (wN g) S := by
  show wStep g (wF g S) S = _
  exact wStep_congr hS fun T hT => wF_eq T S (T + 1) (by omega) hT (by omega)

theorem wN_le {g : List Nat} {S : Nat} (hS : S < 1024) : wN g S ≤ g.length := by
  rw [wN_eq hS]
  unfold wStep
  split
  · omega
  · have : ∀ (L : List Nat) (m : Nat), m ≤ g.length → L.foldl (fun m v => min m (max (wN g (without S (2 ^ v))) (degN g v (without S (2 ^ v))))) m ≤ g.length := by
      intro L
      induction L with
      | nil => intro m h; exact h
      | cons v L ih => intro m h; exact ih _ (Nat.le_trans (Nat.min_le_left _ _) h)
    exact this _ _ (Nat.le_refl _)

theorem imin_nat (a b : Nat) : imin (a : Int) (b : Int) = ((min a b : Nat) : Int) := by unfold imin; split <;> omega

theorem imax_nat (a b : Nat) : imax (a : Int) (b : Int) = ((max a b : Nat) : Int) := by unfold imax; split <;> omega

attribute [local simp] nx_eq nx_new nx_set blk_new blk_set asI_int asK_int asB_bool asP_ptr al_eq bx_eq len_slice onE_exit onE_ret onR_ret Value.cells d3 cell_new cell_set rd_new rd_set off eq lt le ifB gv out w3
/-- The widths up to a set. -/
def WA (g : List Nat) (S : Nat) (A : List Int) : Prop := A.length = 2 ^ g.length ∧ ∀ T, T < S → A[T]? = some (wN g T : Int)

theorem s84_in {tv v1 nv : Value} {g : List Nat} {S b : Nat} {h : H} {A : List Int} (hg : GrB g) (hS0 : 0 < S) (hS : S < 2 ^ g.length) (hn : SlR h 3 1 nv (cellsN (elts S))) (hia : IA h b v1 A) (hA : WA g S A) (hAS : A[S]? = some (g.length : Int))
    (h0 : H) (hx : Ext h0 h) (hb : h0.nx ≤ b) (hs0 : SlR h0 3 1 tv (cellsN g)) (hnb : ∀ q, AM.blkOf nv = some q → q ≠ b) :
    ∃ h' w, lpGo (f84_l2 rn 2000 tv v1 [iv S] nv (elts S).length) 2000 [iv 0] h = some (.exit 2, w, h') ∧ Ext h0 h' ∧ ∃ A', IA h' b v1 A' ∧ WA g (S + 1) A' := by
  have hlen := hg.len
  have hpow := hg.pow
  have hS' : S < 1024 := Nat.lt_of_lt_of_le hS hpow
  have hpl : (elts S).length ≤ 10 := by rw [elts_len]; exact pop_le_n (Nat.le_refl 10) hS'
  obtain ⟨hAl, hAT⟩ := hA
  let stepW : Nat → Nat → Nat → Nat := fun _ v m => min m (max (wN g (without S (2 ^ v))) (degN g v (without S (2 ^ v))))
  obtain ⟨ws', h', hl, xh, ia', hk', hnx', rfl⟩ := lp_for (F := f84_l2 rn 2000 tv v1 [iv S] nv (elts S).length) (k := 2000) (l := elts S) stepW
    (fun i m ws g' => Ext h0 g' ∧ IA g' b v1 (A.set S (m : Int)) ∧ (∀ q, q ≠ b → g'.blk q = h.blk q) ∧ g'.nx = h.nx ∧ ws = [iv i]) 2 (ws := [iv 0]) (h := h) (s0 := g.length)
    ⟨hx, by
      have : A.set S (g.length : Int) = A := by
        have hSl : S < A.length := by omega
        rw [List.getElem?_eq_getElem hSl] at hAS
        rw [← Option.some.inj hAS]
        exact List.set_getElem_self hSl
      rw [this]; exact hia, fun _ _ => rfl, rfl, rfl⟩ (by omega)
    (by
      rintro m ws g' ⟨_, _, _, _, rfl⟩
      simp [f84_l2])
    (by
      rintro i v m ws g' hv ⟨xg, ia, hk, hnx, rfl⟩
      have hi := (List.getElem?_eq_some_iff.1 hv).1
      have hvS := (mem_elts hS').1 (List.mem_of_getElem? hv)
      have hvl : v < g.length := bit_lt hS hvS
      have hsg := hs0.ext xg
      have hT := without_ltv hS' hvS
      obtain ⟨T, hTd⟩ : ∃ T, T = without S (2 ^ v) := ⟨_, rfl⟩
      have hTn : T < 2 ^ g.length := by omega
      have hng : SlR g' 3 1 nv (cellsN (elts S)) := hn.keepB (by omega) fun q hq => hk q (hnb q hq)
      have h2v : 2 ^ v < 2 ^ 10 := Nat.pow_lt_pow_right (by omega) (by omega)
      have hadd : add .i64 (i : Int) 1 = (i : Int) + 1 := add64 (by omega) (by omega)
      have hand : AM.andNot .i64 (S : Int) (AM.shl .i64 1 (v : Int)) = ((T : Nat) : Int) := by rw [shl1_nat (by omega), andNot_nat (by omega) (by omega), hTd]
      have e1 : ∀ (K : Value → Option (Ex × List Value × H)), (six nv (i : Int) 1 fun b o => (g'.cell b o).bind K) = K (iv v) := fun K => hng.c0 (by omega) (x := [iv v]) (by simp [hv]) rfl K
      have hSA : S < (A.set S (m : Int)).length := by rw [List.length_set]; omega
      have hTA : T < (A.set S (m : Int)).length := by rw [List.length_set]; omega
      have cS : g'.cell b S = some (iv m) := by
        rw [cell_of ia.row, List.getElem?_map, List.getElem?_set, if_pos rfl, if_pos (by omega)]; rfl
      have cT : g'.cell b T = some (iv (wN g T)) := by
        rw [cell_of ia.row, List.getElem?_map, List.getElem?_set, if_neg (show ¬ S = T by omega), hAT T (by omega)]; rfl
      have hw := ia.wrc (i := S) hSA ((stepW i v m : Nat) : Int)
      rw [List.set_set] at hw
      have ia2 := ia.set S ((stepW i v m : Nat) : Int)
      rw [List.set_set] at ia2
      have c109 := fun (K : Value → H → Option (Ex × List Value × H)) => calls_eq (K := K) (xs := [tv, iv v, iv T]) (s109 hg hsg hvl hTn)
      have hval : imin (m : Int) (imax ((wN g T : Nat) : Int) ((degN g v T : Nat) : Int)) = ((stepW i v m : Nat) : Int) := by
        rw [imax_nat, imin_nat, hTd]
      refine ⟨[iv ((i : Int) + 1)], g'.set b (.row ((A.set S ((stepW i v m : Nat) : Int)).map iv) 3 true), ?_, xg.set hb _, ia2, fun q hq => ?_, by rw [nx_set]; exact hnx, rfl⟩
      · unfold f84_l2
        simp only [d3, w3]
        rw [show gv [iv (i : Int)] 0 = iv (i : Int) from rfl, show gv [iv (S : Int)] 0 = iv (S : Int) from rfl, asI_int, lt_t (by omega), ifB_true, asK_int, e1, asI_int, asK_int, ia.put (by omega) (by rw [Int.toNat_natCast]; exact hSA), Int.toNat_natCast, cS, Option.bind_some, asI_int, nn_ge (by omega), asI_int, hand, ia.put (by omega) (by rw [Int.toNat_natCast]; exact hTA), Int.toNat_natCast, cT, Option.bind_some, asI_int, nn_ge (by omega), asI_int, hand, c109, asI_int]
        have hbl := ia.lt
        rw [show freq b (nx g') (same g' g') = true by simp [freq, same, hbl], ck_true, ck_true, asK_int, ia.put (by omega) (by rw [Int.toNat_natCast]; exact hSA), Int.toNat_natCast, hval, hw, Option.bind_some, asI_int, hadd]
        rfl
      · rw [blk_set_ne _ _ _ hq]; exact hk q hq)
  refine ⟨h', _, hl, xh, _, ia', by rw [List.length_set]; exact hAl, fun T hT => ?_⟩
  rw [List.getElem?_set]
  by_cases hST : S = T
  · subst hST
    rw [if_pos rfl, if_pos (by omega), wN_eq hS']
    unfold wStep
    rw [if_neg (by omega), foldI_foldl (fun v m => min m (max (wN g (without S (2 ^ v))) (degN g v (without S (2 ^ v)))))]
  · rw [if_neg hST]; exact hAT T (by omega)

theorem s84 {tv : Value} {g : List Nat} {h : H} (hg : GrB g) (hs : SlR h 3 1 tv (cellsN g)) : ∃ v h' A, rn 84 #[tv] h = some (v, h') ∧ Exw h h' ∧ SlR h' 3 1 v (cellsI A) ∧ WA g (2 ^ g.length) A := by
  have hlen := hg.len
  have hpow := hg.pow
  have hp2 := Nat.two_pow_pos g.length
  have hn : ∀ {T : Type} (K : Int → Option T), len tv K = K (g.length : Int) := fun K => by rw [hs.len]; simp
  have x1 := Ext.new h (.row ((List.replicate (2 ^ g.length) 0).map iv) 3 true)
  have ia1 := ia_new (h := h) (n := 2 ^ g.length) (by omega) (l := List.replicate (2 ^ g.length) (0 : Int)) (by simp)
  generalize hvv : (.slice (some ⟨h.nx, 0, none⟩) (2 ^ g.length) (2 ^ g.length) : Value) = vv at *
  obtain ⟨e, w, h', hl, rfl, xh, A, ia, hA⟩ := lp_range (F := f84_l1 rn 2000 tv vv) (k := 2000) (n := 2 ^ g.length - 1)
    (fun i ws g' => ws = [iv ((i + 1 : Nat) : Int)] ∧ Ext h g' ∧ ∃ A, IA g' h.nx vv A ∧ WA g (i + 1) A)
    (fun e _ g' => e = .exit 0 ∧ Ext h g' ∧ ∃ A, IA g' h.nx vv A ∧ WA g (2 ^ g.length) A)
    (by
      rintro i ws g' hi ⟨rfl, xg, A, ia, hA⟩
      obtain ⟨S, hSd⟩ : ∃ S, S = i + 1 := ⟨_, rfl⟩
      rw [← hSd] at hA ⊢
      have hS : S < 2 ^ g.length := by omega
      have hAl := hA.1
      have hadd : add .i64 (S : Int) 1 = ((S + 1 : Nat) : Int) := by rw [add64 (by omega) (by omega)]; omega
      have hw := ia.wrc (i := S) (by omega) (g.length : Int)
      have ia2 := ia.set S (g.length : Int)
      have xg2 : Ext h (g'.set h.nx (.row ((A.set S (g.length : Int)).map iv) 3 true)) := xg.set (Nat.le_refl _) _
      have hA2 : WA g S (A.set S (g.length : Int)) := ⟨by rw [List.length_set]; exact hAl, fun T hT => by rw [List.getElem?_set, if_neg (by omega)]; exact hA.2 T hT⟩
      generalize g'.set h.nx (.row ((A.set S (g.length : Int)).map iv) 3 true) = g2 at *
      obtain ⟨nv, g3, e3, x3, hn3, hq3⟩ := s108 (S := S) (by omega) g2
      have hnl : ∀ {T : Type} (K : Int → Option T), len nv K = K ((elts S).length : Int) := fun K => by rw [hn3.len]; simp
      obtain ⟨g4, w4, e4, x4, A4, ia4, hA4⟩ := s84_in hg (by omega) hS hn3 (ia2.ext x3.toExt) hA2 (by rw [List.getElem?_set, if_pos rfl, if_pos (by omega)]) h (xg2.trans x3.toExt) (Nat.le_refl _) hs (fun q hq e => by have := hq3 q hq; have := ia2.lt; omega)
      refine ⟨.normal, [iv ((S + 1 : Nat) : Int)], g4, ?_, .inl ⟨rfl, rfl, x4, A4, ia4, hA4⟩⟩
      unfold f84_l1
      rw [ia.len, hAl, show gv [iv (S : Int)] 0 = iv (S : Int) from rfl, asI_int, lt_t (by omega), ifB_true, hn, asK_int, ia.put (by omega) (by rw [Int.toNat_natCast]; omega)]
      simp only [w3]
      rw [Int.toNat_natCast, hw, Option.bind_some, calls_eq (xs := [iv S]) e3, hnl, lp_eq e4, onE_exit, if_pos rfl, asI_int, hadd]
      rfl)
    (by
      rintro ws g' ⟨rfl, xg, A, ia, hA⟩
      rw [show 2 ^ g.length - 1 + 1 = 2 ^ g.length by omega] at *
      refine ⟨.exit 0, [iv ((2 ^ g.length : Nat) : Int)], g', ?_, by simp, rfl, xg, A, ia, hA⟩
      unfold f84_l1
      rw [ia.len, hA.1, show gv [iv ((2 ^ g.length : Nat) : Int)] 0 = iv ((2 ^ g.length : Nat) : Int) from rfl, asI_int, lt_f (by omega), ifB_false]
      rfl)
    (ws := [iv 1]) (h := h.new (.row ((List.replicate (2 ^ g.length) 0).map iv) 3 true)) (by omega) ⟨rfl, x1, _, ia1, by simp, fun T hT => by
      obtain rfl : T = 0 := by omega
      rw [wN_eq (by decide)]
      unfold wStep
      rw [if_pos rfl, List.getElem?_replicate, if_pos hp2]
      rfl⟩
  obtain ⟨h2, e2, m2, w2⟩ := x84 (k := 2000) (v0 := tv) (h := h) (h1 := h') (v := vv) (by
    unfold f84
    rw [hn, nn_ge (by omega), shl1_nat (by omega), mks_ints app22 (by kernel_rfl) (by omega), hvv]
    exact (lp_eq hl).trans rfl) ia.slR.notR
  exact ⟨vv, h2, A, e2, w2 xh, ia.slR.ext m2.ext, hA⟩

theorem s40 {tv : Value} {g : List Nat} {h : H} (hg : GrB g) (hs : SlR h 3 1 tv (cellsN g)) : rn 40 #[tv] h = some (iv (wN g (allN g) : Nat), h) := by
  obtain ⟨v, h', A, e, x, hv, hA⟩ := s84 hg hs
  have hall := allN_lt g
  refine p40 (k := 0) (h1 := h') ?_ rfl x.toExt
  unfold f40
  simp only [d3]
  rw [calls_eq (xs := [tv]) e, calls_eq (xs := [tv]) (s85 hg (hs.ext x.toExt)), asI_int, hv.c0 (by omega) (x := [iv (wN g (allN g) : Nat)]) (by rw [Int.toNat_natCast, List.getElem?_map, hA.2 _ hall]; rfl) rfl, asI_int]

theorem s12 {v : Value} {g : List Nat} {h : H} (hg : GrB g) (hval : validG (g.map Int.ofNat) = true) (h9 : g.length ≤ 9) (hs : SlR h 3 1 v (cellsN g)) : rn 12 #[v] h = some (.tuple #[iv (wN g (allN g) : Nat), iv 0], h) := by
  have e39 := s39 (v := v) (l := g.map Int.ofNat) (h := h) (by rw [cellsN_eq]; exact hs) (by simpa using h9)
  rw [if_pos hval] at e39
  refine p12 (k := 0) (h1 := h) ?_ rfl (.refl _)
  unfold f12
  rw [calls_eq (xs := [v]) e39, ext20, ext21, asB_bool, Bool.not_true, ifB_false, calls_eq (xs := [v]) (s40 hg hs), asI_int]

end Go.AM

end

section

/- PLAIN: orders in which the nodes of a graph are taken away, and how wide they are. -/
namespace Go.AM
abbrev Ad := Nat → Nat → Bool

/-- A node is taken away: its neighbours become neighbours of each other. -/
def elim (a : Ad) (v : Nat) : Ad := fun u w => a u w || (decide (u ≠ w) && (a v u && a v w))

structure Sym (a : Ad) : Prop where
  sym : ∀ u w, a u w = a w u
  irr : ∀ u, a u u = false

theorem Sym.elim {a : Ad} (h : Sym a) (v : Nat) : Sym (elim a v) := by
  constructor
  · intro u w
    unfold Go.AM.elim
    rw [h.sym u w]
    by_cases e : u = w
    · subst e; rfl
    · have : w ≠ u := fun e' => e e'.symm
      simp [e, this, Bool.and_comm]
  · intro u
    unfold Go.AM.elim
    simp [h.irr]

/-- The nodes of an order have at most k neighbours behind them when they are taken away. -/
def OW : Ad → List Nat → Nat → Prop
  | _, [], _ => True
  | a, v :: l, k => l.countP (a v) ≤ k ∧ OW (elim a v) l k

/-- One graph is part of another one, among some nodes. -/
def LeOn (S : List Nat) (a b : Ad) : Prop := ∀ u ∈ S, ∀ w ∈ S, a u w = true → b u w = true

theorem LeOn.elim {v : Nat} {S : List Nat} {a b : Ad} (h : LeOn (v :: S) a b) : LeOn S (elim a v) (elim b v) := by
  intro u hu w hw he
  unfold Go.AM.elim at *
  simp only [Bool.or_eq_true, Bool.and_eq_true, decide_eq_true_eq] at *
  rcases he with he | ⟨h1, h2, h3⟩
  · exact .inl (h u (List.mem_cons_of_mem _ hu) w (List.mem_cons_of_mem _ hw) he)
  · exact .inr ⟨h1, h v List.mem_cons_self u (List.mem_cons_of_mem _ hu) h2, h v List.mem_cons_self w (List.mem_cons_of_mem _ hw) h3⟩

theorem countP_mono {l : List Nat} {p q : Nat → Bool} (h : ∀ x ∈ l, p x = true → q x = true) : l.countP p ≤ l.countP q := by
  induction l with
  | nil => simp
  | cons x l ih =>
    have h1 := h x List.mem_cons_self
    have h2 := ih fun y hy => h y (List.mem_cons_of_mem _ hy)
    rw [List.countP_cons, List.countP_cons]
    cases hp : p x
    · simp; omega
    · rw [h1 hp]; simp; omega

theorem OW.mono {k : Nat} : ∀ {l : List Nat} {a b : Ad}, LeOn l a b → OW b l k → OW a l k
  | [], _, _, _, _ => trivial
  | v :: _, _, _, h, ⟨h1, h2⟩ =>
    ⟨Nat.le_trans (countP_mono fun x hx => h v List.mem_cons_self x (List.mem_cons_of_mem _ hx)) h1, OW.mono h.elim h2⟩

theorem OW.up {k m : Nat} (hkm : k ≤ m) : ∀ {l : List Nat} {a : Ad}, OW a l k → OW a l m
  | [], _, _ => trivial
  | _ :: _, _, ⟨h1, h2⟩ => ⟨Nat.le_trans h1 hkm, h2.up hkm⟩

theorem le_elim (a : Ad) (v : Nat) (S : List Nat) : LeOn S a (elim a v) := fun u _ w _ h => by unfold elim; simp [h]

/-- Fewer nodes. -/
theorem OW.sub {k : Nat} {l m : List Nat} (s : m.Sublist l) : ∀ {a : Ad}, OW a l k → OW a m k := by
  induction s with
  | slnil => intro a _; trivial
  | @cons l₁ l₂ v s ih =>
    rintro a ⟨_, h2⟩
    exact OW.mono (le_elim a v _) (ih h2)
  | @cons_cons l₁ l₂ v s ih =>
    rintro a ⟨h1, h2⟩
    exact ⟨Nat.le_trans s.countP_le h1, ih h2⟩

/-! ### Graphs in which nothing is to be added -/
def PE : Ad → List Nat → Prop
  | _, [] => True
  | a, v :: l => (∀ u ∈ l, ∀ w ∈ l, u ≠ w → a v u = true → a v w = true → a u w = true) ∧ PE a l

theorem PE.sub {l m : List Nat} (s : m.Sublist l) {a : Ad} : PE a l → PE a m := by
  induction s with
  | slnil => intro _; trivial
  | cons v s ih => rintro ⟨_, h2⟩; exact ih h2
  | cons_cons v s ih => rintro ⟨h1, h2⟩; exact ⟨fun u hu w hw => h1 u (s.subset hu) w (s.subset hw), ih h2⟩

theorem PE.le {a : Ad} {v : Nat} {l : List Nat} (h : PE a (v :: l)) : LeOn l (elim a v) a := by
  intro u hu w hw he
  unfold elim at he
  simp only [Bool.or_eq_true, Bool.and_eq_true, decide_eq_true_eq] at he
  rcases he with he | ⟨h1, h2, h3⟩
  · exact he
  · exact h.1 u hu w hw h1 h2 h3

/-- Each two of a list are neighbours. -/
def Clq (a : Ad) (l : List Nat) : Prop := ∀ u ∈ l, ∀ w ∈ l, u ≠ w → a u w = true

/-- A node whose neighbours in a list are neighbours of each other. -/
def Simp (a : Ad) (l : List Nat) (v : Nat) : Prop := ∀ u ∈ l, ∀ w ∈ l, u ≠ w → a v u = true → a v w = true → a u w = true

theorem clq_simp {a : Ad} {l : List Nat} (h : Clq a l) (v : Nat) : Simp a l v := fun u hu w hw hne _ _ => h u hu w hw hne

/-- A graph in which nothing is to be added has two simple nodes apart, if not all are neighbours. -/
theorem two_simp {a : Ad} (ha : Sym a) : ∀ {l : List Nat}, l.Nodup → PE a l → Clq a l ∨ ∃ u ∈ l, ∃ w ∈ l, u ≠ w ∧ a u w = false ∧ Simp a l u ∧ Simp a l w
  | [], _, _ => .inl fun u hu => by simp at hu
  | v :: l, hn, hp => by
    rw [List.nodup_cons] at hn
    have sv : Simp a (v :: l) v := by
      intro u hu w hw hne h1 h2
      rcases List.mem_cons.1 hu with rfl | hu
      · rw [ha.irr] at h1; cases h1
      · rcases List.mem_cons.1 hw with rfl | hw
        · rw [ha.irr] at h2; cases h2
        · exact hp.1 u hu w hw hne h1 h2
    -- a simple node of the others that is not a neighbour of v is simple
    have up : ∀ x ∈ l, a v x = false → Simp a l x → Simp a (v :: l) x := by
      intro x hx hvx hs u hu w hw hne h1 h2
      have hxv : a x v = false := by rw [ha.sym]; exact hvx
      rcases List.mem_cons.1 hu with rfl | hu
      · rw [hxv] at h1; cases h1
      · rcases List.mem_cons.1 hw with rfl | hw
        · rw [hxv] at h2; cases h2
        · exact hs u hu w hw hne h1 h2
    have pick : ∀ x ∈ l, a v x = false → Simp a l x → ∃ u ∈ v :: l, ∃ w ∈ v :: l, u ≠ w ∧ a u w = false ∧ Simp a (v :: l) u ∧ Simp a (v :: l) w := fun x hx hvx hs =>
      ⟨v, List.mem_cons_self, x, List.mem_cons_of_mem _ hx, fun e => hn.1 (e ▸ hx), hvx, sv, up x hx hvx hs⟩
    rcases two_simp ha hn.2 hp.2 with hc | ⟨u, hu, w, hw, hne, huw, su, sw⟩
    · by_cases hall : ∀ x ∈ l, a v x = true
      · left
        intro u hu w hw hne
        rcases List.mem_cons.1 hu with e1 | hu
        · rcases List.mem_cons.1 hw with e2 | hw
          · exact absurd (e1.trans e2.symm) hne
          · rw [e1]; exact hall w hw
        · rcases List.mem_cons.1 hw with e2 | hw
          · rw [e2, ha.sym]; exact hall u hu
          · exact hc u hu w hw hne
      · right
        obtain ⟨x, hx⟩ := Classical.not_forall.1 hall
        obtain ⟨hx, hvx⟩ := Classical.not_imp.1 hx
        exact pick x hx (by simpa using hvx) (clq_simp hc x)
    · right
      cases hvu : a v u with
      | false => exact pick u hu hvu su
      | true =>
        cases hvw : a v w with
        | false => exact pick w hw hvw sw
        | true =>
          have := hp.1 u hu w hw hne hvu hvw
          rw [huw] at this; cases this

theorem Simp.sub {a : Ad} {l m : List Nat} {v : Nat} (h : Simp a l v) (s : ∀ x ∈ m, x ∈ l) : Simp a m v := fun u hu w hw => h u (s u hu) w (s w hw)

/-- Any node can be the last one. -/
theorem pe_last {a : Ad} (ha : Sym a) {c : Nat} : ∀ (n : Nat) (l : List Nat), l.length = n → l.Nodup → PE a l → c ∈ l → ∃ m, (m ++ [c]).Perm l ∧ PE a (m ++ [c])
  | 0, l, hl, _, _, hc => by
    rw [List.eq_nil_of_length_eq_zero hl] at hc
    simp at hc
  | n + 1, l, hl, hn, hp, hc => by
    by_cases h1 : ∀ x ∈ l, x = c
    · -- nobody else
      have hlc : l = [c] := by
        match l, hn, hc, h1 with
        | [x], _, _, h1 => rw [h1 x (by simp)]
        | x :: y :: r, hn, _, h1 =>
          rw [List.nodup_cons] at hn
          exact absurd (show x ∈ y :: r by rw [h1 x (by simp), ← h1 y (by simp)]; exact List.mem_cons_self) hn.1
      exact ⟨[], by rw [hlc]; exact .refl _, by rw [List.nil_append, ← hlc]; exact hp⟩
    · obtain ⟨x, hx⟩ := Classical.not_forall.1 h1
      obtain ⟨hx, hxc⟩ := Classical.not_imp.1 hx
      obtain ⟨u, hu, huc, su⟩ : ∃ u ∈ l, u ≠ c ∧ Simp a l u := by
        rcases two_simp ha hn hp with h | ⟨u, hu, w, hw, hne, _, su, sw⟩
        · exact ⟨x, hx, hxc, clq_simp h x⟩
        · by_cases huc : u = c
          · exact ⟨w, hw, fun e => hne (huc.trans e.symm), sw⟩
          · exact ⟨u, hu, huc, su⟩
      obtain ⟨m, pm, hm⟩ := pe_last ha n (l.erase u) (by rw [List.length_erase_of_mem hu]; omega) (hn.erase u) (hp.sub List.erase_sublist) ((List.mem_erase_of_ne (Ne.symm huc)).2 hc)
      refine ⟨u :: m, ?_, ?_, hm⟩
      · exact (List.Perm.cons u pm).trans (List.perm_cons_erase hu).symm
      · exact su.sub fun y hy => List.mem_of_mem_erase (pm.mem_iff.1 hy)

/-! ### What is added -/
def fillG : Ad → List Nat → Ad
  | a, [] => a
  | a, v :: l => fun u w => if u = v ∨ w = v then a u w else fillG (elim a v) l u w

theorem fill_sym : ∀ {l : List Nat} {a : Ad}, Sym a → Sym (fillG a l)
  | [], _, h => h
  | v :: l, a, h => by
    have ih := fill_sym (l := l) (h.elim v)
    constructor
    · intro u w
      unfold fillG
      by_cases e : u = v ∨ w = v
      · rw [if_pos e, if_pos e.symm]; exact h.sym u w
      · rw [if_neg e, if_neg fun e' => e e'.symm]; exact ih.sym u w
    · intro u
      unfold fillG
      split
      · exact h.irr u
      · exact ih.irr u

theorem fill_le : ∀ {l : List Nat} {a : Ad} {u w : Nat}, a u w = true → fillG a l u w = true
  | [], _, _, _, h => h
  | v :: l, a, u, w, h => by
    unfold fillG
    split
    · exact h
    · exact fill_le (by unfold elim; simp [h])

theorem pe_congr : ∀ {l : List Nat} {a b : Ad}, (∀ u ∈ l, ∀ w ∈ l, a u w = b u w) → PE a l → PE b l
  | [], _, _, _, _ => trivial
  | v :: l, a, b, h, ⟨h1, h2⟩ => by
    refine ⟨fun u hu w hw hne q1 q2 => ?_, pe_congr (fun u hu w hw => h u (List.mem_cons_of_mem _ hu) w (List.mem_cons_of_mem _ hw)) h2⟩
    rw [← h v List.mem_cons_self u (List.mem_cons_of_mem _ hu)] at q1
    rw [← h v List.mem_cons_self w (List.mem_cons_of_mem _ hw)] at q2
    rw [← h u (List.mem_cons_of_mem _ hu) w (List.mem_cons_of_mem _ hw)]
    exact h1 u hu w hw hne q1 q2

theorem fill_on {v : Nat} {l : List Nat} {a : Ad} (hv : v ∉ l) : ∀ u ∈ l, ∀ w ∈ l, fillG a (v :: l) u w = fillG (elim a v) l u w := by
  intro u hu w hw
  show (if u = v ∨ w = v then a u w else fillG (elim a v) l u w) = _
  rw [if_neg]
  rintro (e | e)
  · exact hv (e ▸ hu)
  · exact hv (e ▸ hw)

theorem fill_pe : ∀ {l : List Nat} {a : Ad}, l.Nodup → PE (fillG a l) l
  | [], _, _ => trivial
  | v :: l, a, hn => by
    rw [List.nodup_cons] at hn
    refine ⟨fun u hu w hw hne q1 q2 => ?_, pe_congr (fun u hu w hw => (fill_on hn.1 u hu w hw).symm) (fill_pe hn.2)⟩
    have e1 : fillG a (v :: l) v u = a v u := by show (if v = v ∨ u = v then a v u else _) = _; rw [if_pos (.inl rfl)]
    have e2 : fillG a (v :: l) v w = a v w := by show (if v = v ∨ w = v then a v w else _) = _; rw [if_pos (.inl rfl)]
    rw [e1] at q1
    rw [e2] at q2
    rw [fill_on hn.1 u hu w hw]
    exact fill_le (by unfold elim; simp [hne, q1, q2])

/-- In a graph in which nothing is to be added, the clique of each node is small. -/
def Deg : Ad → List Nat → Nat → Prop
  | _, [], _ => True
  | a, v :: l, k => l.countP (a v) ≤ k ∧ Deg a l k

theorem deg_congr {k : Nat} : ∀ {l : List Nat} {a b : Ad}, (∀ u ∈ l, ∀ w ∈ l, a u w = b u w) → Deg a l k → Deg b l k
  | [], _, _, _, _ => trivial
  | v :: l, a, b, h, ⟨h1, h2⟩ => by
    refine ⟨?_, deg_congr (fun u hu w hw => h u (List.mem_cons_of_mem _ hu) w (List.mem_cons_of_mem _ hw)) h2⟩
    exact Nat.le_trans (countP_mono fun x hx q => by rw [h v List.mem_cons_self x (List.mem_cons_of_mem _ hx)]; exact q) h1

theorem fill_deg {k : Nat} : ∀ {l : List Nat} {a : Ad}, l.Nodup → OW a l k → Deg (fillG a l) l k
  | [], _, _, _ => trivial
  | v :: l, a, hn, ⟨h1, h2⟩ => by
    rw [List.nodup_cons] at hn
    refine ⟨?_, deg_congr (fun u hu w hw => (fill_on hn.1 u hu w hw).symm) (fill_deg hn.2 h2)⟩
    exact Nat.le_trans (countP_mono fun x hx q => by
      have : fillG a (v :: l) v x = a v x := by show (if v = v ∨ x = v then a v x else _) = _; rw [if_pos (.inl rfl)]
      rw [this] at q; exact q) h1

theorem len_sub : ∀ {l m : List Nat}, l.Nodup → (∀ x ∈ l, x ∈ m) → l.length ≤ m.length
  | [], _, _, _ => by simp
  | x :: l, m, hn, h => by
    rw [List.nodup_cons] at hn
    have hx := h x List.mem_cons_self
    have := len_sub (l := l) (m := m.erase x) hn.2 fun y hy => (List.mem_erase_of_ne (fun e : y = x => hn.1 (e ▸ hy))).2 (h y (List.mem_cons_of_mem _ hy))
    rw [List.length_erase_of_mem hx] at this
    have := List.length_pos_of_mem hx
    rw [List.length_cons]
    omega

/-- The cliques of such a graph are small. -/
theorem clq_deg {a : Ad} (ha : Sym a) {k : Nat} : ∀ {l : List Nat} {K : List Nat}, Deg a l k → l.Nodup → K.Nodup → (∀ x ∈ K, x ∈ l) → Clq a K → K.length ≤ k + 1
  | [], K, _, _, _, hs, _ => by
    have : K = [] := List.eq_nil_iff_forall_not_mem.2 fun x hx => by simpa using hs x hx
    rw [this]; simp
  | v :: l, K, ⟨h1, h2⟩, hn, hK, hs, hc => by
    rw [List.nodup_cons] at hn
    by_cases hv : v ∈ K
    · have h3 : (K.erase v).length ≤ l.countP (a v) := by
        rw [List.countP_eq_length_filter]
        have hsub : (K.erase v).Nodup := hK.erase v
        have hin : ∀ x ∈ K.erase v, x ∈ l.filter (a v) := by
          intro x hx
          have hxK := List.mem_of_mem_erase hx
          have hxv : x ≠ v := ((hK.mem_erase_iff).1 hx).1
          rw [List.mem_filter]
          refine ⟨(List.mem_cons.1 (hs x hxK)).resolve_left hxv, hc v hv x hxK (Ne.symm hxv)⟩
        exact len_sub hsub hin
      rw [List.length_erase_of_mem hv] at h3
      omega
    · exact clq_deg ha h2 hn.2 hK (fun x hx => (List.mem_cons.1 (hs x hx)).resolve_left fun e => hv (e ▸ hx)) hc

/-- In such a graph each order in which nothing is to be added is good. -/
theorem pe_ow {a : Ad} (ha : Sym a) {k : Nat} {l : List Nat} (hl : l.Nodup) (hd : Deg a l k) : ∀ {m : List Nat}, m.Nodup → (∀ x ∈ m, x ∈ l) → PE a m → OW a m k
  | [], _, _, _ => trivial
  | v :: m, hn, hs, hp => by
    rw [List.nodup_cons] at hn
    refine ⟨?_, OW.mono hp.le (pe_ow ha hl hd hn.2 (fun x hx => hs x (List.mem_cons_of_mem _ hx)) hp.2)⟩
    have hK : (v :: m.filter (a v)).Nodup := by
      rw [List.nodup_cons]
      exact ⟨fun h => hn.1 (List.mem_filter.1 h).1, hn.2.filter _⟩
    have := clq_deg ha hd hl hK (fun x hx => by
      rcases List.mem_cons.1 hx with rfl | hx
      · exact hs x List.mem_cons_self
      · exact hs x (List.mem_cons_of_mem _ (List.mem_filter.1 hx).1)) (fun u hu w hw hne => by
      rcases List.mem_cons.1 hu with rfl | hu
      · rcases List.mem_cons.1 hw with rfl | hw
        · exact absurd rfl hne
        · exact (List.mem_filter.1 hw).2
      · rcases List.mem_cons.1 hw with rfl | hw
        · rw [ha.sym]; exact (List.mem_filter.1 hu).2
        · exact hp.1 u (List.mem_filter.1 hu).1 w (List.mem_filter.1 hw).1 hne (List.mem_filter.1 hu).2 (List.mem_filter.1 hw).2)
    rw [List.length_cons] at this
    rw [List.countP_eq_length_filter]
    omega

/-- A good order can end with any node. -/
theorem ow_last {a : Ad} (ha : Sym a) {k c : Nat} {l : List Nat} (hn : l.Nodup) (h : OW a l k) (hc : c ∈ l) : ∃ m, (m ++ [c]).Perm l ∧ OW a (m ++ [c]) k := by
  have hf := fill_sym (l := l) ha
  obtain ⟨m, pm, hm⟩ := pe_last hf l.length l rfl hn (fill_pe (a := a) hn) hc
  refine ⟨m, pm, OW.mono (fun u _ w _ q => fill_le q) (pe_ow hf hn (fill_deg hn h) (pm.nodup_iff.2 hn) (fun x hx => pm.mem_iff.1 hx) hm)⟩

/-! ### Two parts that meet in at most one node -/
theorem glue {k : Nat} {τ α : List Nat} (hα : α.Nodup) (hτ : τ.Nodup) (h1 : τ.length ≤ 1) : ∀ {σ : List Nat} {a : Ad}, Sym a → (∀ x ∈ σ, x ∉ α) → (∀ v ∈ σ, ∀ u ∈ α, a v u = true → u ∈ τ) → OW a (σ ++ τ) k → OW a α k → OW a (σ ++ α) k
  | [], _, _, _, _, _, h => h
  | v :: σ, a, ha, hd, hb, ⟨q1, q2⟩, h => by
    have hnb : ∀ u ∈ α, a v u = true → u ∈ τ := hb v List.mem_cons_self
    refine ⟨?_, glue hα hτ h1 (ha.elim v) (fun x hx => hd x (List.mem_cons_of_mem _ hx)) (fun x hx u hu q => ?_) q2 (OW.mono (fun u hu w hw q => ?_) h)⟩
    · refine Nat.le_trans ?_ q1
      show (σ ++ α).countP (a v) ≤ (σ ++ τ).countP (a v)
      rw [List.countP_append, List.countP_append]
      have : α.countP (a v) ≤ τ.countP (a v) := by
        rw [List.countP_eq_length_filter, List.countP_eq_length_filter]
        refine len_sub (hα.filter _) fun x hx => ?_
        have := List.mem_filter.1 hx
        exact List.mem_filter.2 ⟨hnb x this.1 this.2, this.2⟩
      omega
    · unfold elim at q
      simp only [Bool.or_eq_true, Bool.and_eq_true] at q
      rcases q with q | ⟨_, _, q⟩
      · exact hb x (List.mem_cons_of_mem _ hx) u hu q
      · exact hnb u hu q
    · unfold elim at q
      simp only [Bool.or_eq_true, Bool.and_eq_true, decide_eq_true_eq] at q
      rcases q with q | ⟨hne, z1, z2⟩
      · exact q
      · have m1 := hnb u hu z1
        have m2 := hnb w hw z2
        match τ, h1, m1, m2 with
        | [t], _, m1, m2 => exact absurd ((List.mem_singleton.1 m1).trans (List.mem_singleton.1 m2).symm) hne

end Go.AM

end

section

/- PLAIN: ears on sets without cut nodes; where blocks meet. -/
namespace Go.AM
open Go.Proofs
/-- A list of nodes as a set. -/
def setOf (l : List Nat) : Nat := l.foldr (fun i s => s ||| 2 ^ i) 0

theorem setOf_bit {l : List Nat} {i : Nat} : (setOf l).testBit i = true ↔ i ∈ l := by
  induction l with
  | nil => simp [setOf]
  | cons x l ih =>
    unfold setOf at ih ⊢
    rw [List.foldr_cons, Nat.testBit_or, Bool.or_eq_true, ih, Nat.testBit_two_pow, decide_eq_true_iff, List.mem_cons]
    exact ⟨fun h => h.elim .inr fun e => .inl e.symm, fun h => h.elim (fun e => .inr e.symm) .inl⟩

theorem setOf_lt {l : List Nat} {n : Nat} (h : ∀ i ∈ l, i < n) : setOf l < 2 ^ n := by
  refine Nat.lt_pow_two_of_testBit _ fun i hi => ?_
  rw [Bool.eq_false_iff]
  intro hb
  have := h i (setOf_bit.1 hb)
  omega

/-! ### Blocks -/
/-- A block of more than one node. -/
theorem block_two {g : List Nat} (hg : GrN g) {S : Nat} (hS : S ∈ blocksP g) : (∃ v, v < g.length ∧ nb g v = 0 ∧ S = 2 ^ v) ∨ (1 < pop S ∧ Bi g S ∧ S < 2 ^ g.length ∧ ∀ x, x < 2 ^ g.length → Bi g x → (∀ i, S.testBit i = true → x.testBit i = true) → x = S) := by
  have hlen := hg.len
  have hpow := hg.pow
  obtain ⟨h1, h2, h3⟩ := mem_blocks.1 hS
  unfold candQ at h2
  rw [Bool.or_eq_true] at h2
  rcases h2 with h2 | h2
  · left
    unfold loneQ at h2
    simp only [Bool.and_eq_true, decide_eq_true_iff] at h2
    exact ⟨low S, low_lt hg.toGrB h1 (by rintro rfl; have h9 := h2.1; revert h9; decide), h2.2, pop_one (by omega) h2.1⟩
  · right
    obtain ⟨h4, h5⟩ := (cand2_iff hg h1).1 h2
    refine ⟨h4, h5, h1, fun x hx hbx hsub => h3 x hx ?_ (subS_iff.2 hsub)⟩
    unfold candQ
    rw [(cand2_iff hg hx).2 ⟨?_, hbx⟩, Bool.or_true]
    exact Nat.lt_of_lt_of_le h4 (pop_le_of hsub)

/-- Two nodes. -/
def duo (a b : Nat) : Nat := 2 ^ a ||| 2 ^ b

theorem duo_bit {a b i : Nat} : (duo a b).testBit i = true ↔ i = a ∨ i = b := by
  unfold duo
  rw [Nat.testBit_or, Bool.or_eq_true, Nat.testBit_two_pow, Nat.testBit_two_pow, decide_eq_true_iff, decide_eq_true_iff]
  exact ⟨fun h => h.elim (fun e => .inl e.symm) fun e => .inr e.symm, fun h => h.elim (fun e => .inl e.symm) fun e => .inr e.symm⟩

theorem duo_lt {a b n : Nat} (ha : a < n) (hb : b < n) : duo a b < 2 ^ n := Nat.or_lt_two_pow (Nat.pow_lt_pow_right (by omega) ha) (Nat.pow_lt_pow_right (by omega) hb)

theorem duo_bi {g : List Nat} (hg : GrN g) {a b : Nat} (h : adj g a b = true) : Bi g (duo a b) := by
  intro w x y hx hy
  obtain ⟨h1, h2⟩ := bit_del.1 hx
  obtain ⟨h3, h4⟩ := bit_del.1 hy
  rcases duo_bit.1 h1 with rfl | rfl <;> rcases duo_bit.1 h3 with rfl | rfl
  · exact .base
  · exact Rch.one h hy
  · exact Rch.one (by rw [hg.sym]; exact h) hy
  · exact .base

theorem duo_pop {a b : Nat} (ha : a < 10) (hb : b < 10) (hab : a ≠ b) : pop (duo a b) = 2 := by
  have : ∀ a, a < 10 → ∀ b, b < 10 → a ≠ b → pop (duo a b) = 2 := by decide +kernel
  exact this a ha b hb hab

/-- Each edge is in a block. -/
theorem edge_block {g : List Nat} (hg : GrN g) {a b : Nat} (h : adj g a b = true) : ∃ S ∈ blocksP g, S.testBit a = true ∧ S.testBit b = true := by
  have hlen := hg.len
  have hpow := hg.pow
  obtain ⟨ha, hb⟩ := hg.adj_lt h
  have hab : a ≠ b := by rintro rfl; rw [hg.irr] at h; cases h
  have hlt := duo_lt ha hb
  have hp := duo_pop (a := a) (b := b) (by omega) (by omega) hab
  have hc : candQ g (duo a b) = true := by
    unfold candQ
    rw [(cand2_iff hg hlt).2 ⟨by omega, duo_bi hg h⟩, Bool.or_true]
  obtain ⟨y, hy1, hy2⟩ := mx_above hlen (c := candQ g) 8 (duo a b) (by omega) hlt hc
  exact ⟨y, mem_blocks.2 hy1, subS_iff.1 hy2 a (duo_bit.2 (.inl rfl)), subS_iff.1 hy2 b (duo_bit.2 (.inr rfl))⟩

end Go.AM

end

section

/- Blocks and cactus: the laws. -/
namespace Go.AM
open Go.Proofs
variable {R : Type}
attribute [local simp] nx_eq nx_new nx_set blk_new blk_set asI_int asK_int asB_bool asP_ptr al_eq bx_eq len_slice onE_exit onE_ret onR_ret Value.cells d3 d22 d23 d83 d72 w3 w83 cell_new cell_set rd_new rd_set off eq lt le ifB gv out ext20 ext21
theorem blocks_lt {g : List Nat} {b : Nat} (hb : b ∈ blocksP g) : b < 2 ^ g.length := (mem_blocks.1 hb).1

theorem blocks_len {g : List Nat} (hg : GrB g) : (blocksP g).length ≤ 1023 := by
  have := cands_len hg
  unfold blocksP
  exact Nat.le_trans (List.length_filter_le _ _) this

end Go.AM

end

section

/- PLAIN: the width of a graph is the greatest width of one of its blocks. -/
namespace Go.AM
open Go.Proofs
/-! ### Nodes taken away, one after the other -/
def elimL : Ad → List Nat → Ad
  | a, [] => a
  | a, v :: l => elimL (elim a v) l

theorem elimL_snoc : ∀ (p : List Nat) (a : Ad) (x : Nat), elimL a (p ++ [x]) = elim (elimL a p) x
  | [], _, _ => rfl
  | v :: p, a, x => elimL_snoc p (elim a v) x

theorem elimL_sym : ∀ {p : List Nat} {a : Ad}, Sym a → Sym (elimL a p)
  | [], _, h => h
  | v :: l, a, h => by
    show Sym (elimL (elim a v) l)
    exact elimL_sym (p := l) (h.elim v)

theorem rch_snoc {g : List Nat} {q : List Nat} {x u i : Nat} (h : Rch g (setOf (x :: q)) u i) : Rch g (setOf q) u i ∨ ((∃ j, Rch g (setOf q) u j ∧ adj g j x = true) ∧ Rch g (setOf q) x i) := by
  induction h with
  | base => exact .inl .base
  | @step a b _ hab hb ih =>
    rw [setOf_bit] at hb
    rcases List.mem_cons.1 hb with e | hb
    · subst e
      rcases ih with ih | ⟨ih, _⟩
      · exact .inr ⟨⟨a, ih, hab⟩, .base⟩
      · exact .inr ⟨ih, .base⟩
    · rcases ih with ih | ⟨ih, ih2⟩
      · exact .inl (.step ih hab (setOf_bit.2 hb))
      · exact .inr ⟨ih, .step ih2 hab (setOf_bit.2 hb)⟩

theorem setOf_nil : setOf [] = 0 := rfl

theorem elimL_iff {g : List Nat} (hs : Sym (adj g)) : ∀ (q : List Nat) {u w : Nat}, u ≠ w → u ∉ q → w ∉ q → (elimL (adj g) q.reverse u w = true ↔ ∃ i, Rch g (setOf q) u i ∧ adj g i w = true)
  | [], u, w, _, _, _ => by
    constructor
    · intro h; exact ⟨u, .base, h⟩
    · rintro ⟨i, hi, h⟩
      cases hi with
      | base => exact h
      | step _ _ hb => rw [setOf_nil] at hb; simp at hb
  | x :: q, u, w, hne, hu, hw => by
    rw [List.mem_cons, not_or] at hu hw
    have up : ∀ {a b}, Rch g (setOf q) a b → Rch g (setOf (x :: q)) a b := fun h => h.mono fun i hi => setOf_bit.2 (List.mem_cons_of_mem _ (setOf_bit.1 hi))
    have hA := elimL_sym (p := q.reverse) hs
    rw [List.reverse_cons, elimL_snoc]
    unfold elim
    simp only [Bool.or_eq_true, Bool.and_eq_true, decide_eq_true_eq]
    constructor
    · rintro (h | ⟨_, h1, h2⟩)
      · obtain ⟨i, hi, h⟩ := (elimL_iff hs q hne hu.2 hw.2).1 h
        exact ⟨i, up hi, h⟩
      · by_cases hxq : x ∈ q
        · -- x has been taken away before: any way goes on
          rw [hA.sym] at h1
          have key : ∀ (q : List Nat) (u w : Nat), elimL (adj g) q.reverse u w = true → ∃ i, Rch g (setOf q) u i ∧ adj g i w = true := by
            intro q
            induction q with
            | nil => intro u w h; exact ⟨u, .base, h⟩
            | cons y q ih =>
              intro u w h
              have up : ∀ {a b}, Rch g (setOf q) a b → Rch g (setOf (y :: q)) a b := fun h => h.mono fun i hi => setOf_bit.2 (List.mem_cons_of_mem _ (setOf_bit.1 hi))
              have hA := elimL_sym (p := q.reverse) hs
              rw [List.reverse_cons, elimL_snoc] at h
              unfold elim at h
              simp only [Bool.or_eq_true, Bool.and_eq_true, decide_eq_true_eq] at h
              rcases h with h | ⟨_, h1, h2⟩
              · obtain ⟨i, hi, h⟩ := ih u w h
                exact ⟨i, up hi, h⟩
              · rw [hA.sym] at h1
                obtain ⟨j, hj, h1⟩ := ih u y h1
                obtain ⟨i, hi, h2⟩ := ih y w h2
                exact ⟨i, (Rch.step (up hj) h1 (setOf_bit.2 List.mem_cons_self)).trans (up hi), h2⟩
          obtain ⟨j, hj, h1⟩ := key q u x h1
          obtain ⟨i, hi, h2⟩ := key q x w h2
          exact ⟨i, (Rch.step (up hj) h1 (setOf_bit.2 List.mem_cons_self)).trans (up hi), h2⟩
        · rw [hA.sym] at h1
          obtain ⟨j, hj, h1⟩ := (elimL_iff hs q hu.1 hu.2 hxq).1 h1
          obtain ⟨i, hi, h2⟩ := (elimL_iff hs q (Ne.symm hw.1) hxq hw.2).1 h2
          exact ⟨i, (Rch.step (up hj) h1 (setOf_bit.2 List.mem_cons_self)).trans (up hi), h2⟩
    · rintro ⟨i, hi, h⟩
      by_cases hxq : x ∈ q
      · left
        refine (elimL_iff hs q hne hu.2 hw.2).2 ⟨i, hi.mono fun z hz => ?_, h⟩
        rw [setOf_bit] at hz ⊢
        rcases List.mem_cons.1 hz with rfl | hz
        · exact hxq
        · exact hz
      · rcases rch_snoc hi with hi | ⟨⟨j, hj, h1⟩, hi⟩
        · exact .inl ((elimL_iff hs q hne hu.2 hw.2).2 ⟨i, hi, h⟩)
        · right
          refine ⟨hne, ?_, (elimL_iff hs q (Ne.symm hw.1) hxq hw.2).2 ⟨i, hi, h⟩⟩
          rw [hA.sym]
          exact (elimL_iff hs q hu.1 hu.2 hxq).2 ⟨j, hj, h1⟩

theorem GrN.symA {g : List Nat} (hg : GrN g) : Sym (adj g) := ⟨hg.sym, hg.irr⟩

theorem len_eq_of {l m : List Nat} (hl : l.Nodup) (hm : m.Nodup) (h : ∀ x, x ∈ l ↔ x ∈ m) : l.length = m.length :=
  Nat.le_antisymm (len_sub hl fun x hx => (h x).1 hx) (len_sub hm fun x hx => (h x).2 hx)

theorem degN_count {g : List Nat} (hg : GrN g) {q : List Nat} {v : Nat} {r : List Nat} (hl : ∀ i, i < g.length ↔ i ∈ q.reverse ++ v :: r) (hn : (q.reverse ++ v :: r).Nodup) :
    degN g v (setOf q) = r.countP (elimL (adj g) q.reverse v) := by
  have hlen := hg.len
  have hpow := hg.pow
  rw [List.nodup_append] at hn
  obtain ⟨nq, nr, hd⟩ := hn
  rw [List.nodup_cons] at nr
  have hvq : v ∉ q := fun h => hd v (List.mem_reverse.2 h) v List.mem_cons_self rfl
  have hv : v < g.length := (hl v).2 (List.mem_append.2 (.inr List.mem_cons_self))
  have hql : ∀ i ∈ q, i < g.length := fun i hi => (hl i).2 (List.mem_append.2 (.inl (List.mem_reverse.2 hi)))
  have hS : setOf q < 2 ^ g.length := setOf_lt hql
  have hW : setOf q ||| 2 ^ v < 1024 := Nat.lt_of_lt_of_le (Nat.or_lt_two_pow hS (Nat.pow_lt_pow_right (by omega) hv)) hpow
  have hbit : ∀ i, (without (without (arN g (rch g (setOf q ||| 2 ^ v) v)) (setOf q)) (2 ^ v)).testBit i = true ↔ i ∈ r ∧ elimL (adj g) q.reverse v i = true := by
    intro i
    rw [bit_del, testBit_without, Bool.and_eq_true, Bool.not_eq_true', ← Bool.not_eq_true, setOf_bit, arN_bit (rch_lt _ _ _)]
    constructor
    · rintro ⟨⟨⟨j, hj, hji⟩, hiq⟩, hiv⟩
      have hir : i ∈ r := by
        have := (hl i).1 (hg.adj_lt hji).2
        rw [List.mem_append, List.mem_reverse, List.mem_cons] at this
        exact (this.resolve_left hiq).resolve_left hiv
      refine ⟨hir, (elimL_iff hg.symA q (Ne.symm hiv) hvq hiq).2 ⟨j, ?_, hji⟩⟩
      have hj := (rch_bit (by omega) hW).1 hj
      -- back to v is not needed
      have key : ∀ {z}, Rch g (setOf q ||| 2 ^ v) v z → Rch g (setOf q) v z := by
        intro z hz
        induction hz with
        | base => exact .base
        | @step a b _ hab hb ih =>
          rw [Nat.testBit_or, Bool.or_eq_true] at hb
          rcases hb with hb | hb
          · exact .step ih hab hb
          · rw [Nat.testBit_two_pow] at hb
            have : v = b := by simpa using hb
            subst this
            exact .base
      exact key hj
    · rintro ⟨hir, h⟩
      have hiq : i ∉ q := fun hq => hd i (List.mem_reverse.2 hq) i (List.mem_cons_of_mem _ hir) rfl
      have hiv : i ≠ v := fun e => nr.1 (e ▸ hir)
      obtain ⟨j, hj, hji⟩ := (elimL_iff hg.symA q (Ne.symm hiv) hvq hiq).1 h
      exact ⟨⟨⟨j, (rch_bit (by omega) hW).2 (hj.mono fun z hz => by rw [Nat.testBit_or, hz]; rfl), hji⟩, hiq⟩, hiv⟩
  unfold degN pop
  rw [List.countP_eq_length_filter, List.countP_eq_length_filter]
  refine len_eq_of (List.nodup_range.filter _) (nr.2.filter _) fun i => ?_
  rw [List.mem_filter, List.mem_filter, List.mem_range]
  constructor
  · rintro ⟨_, h⟩; exact (hbit i).1 h
  · intro h
    refine ⟨?_, (hbit i).2 h⟩
    have := (hl i).2 (List.mem_append.2 (.inr (List.mem_cons_of_mem _ h.1)))
    omega

/-! ### The widths of sets -/
def Wr (g : List Nat) (k : Nat) : List Nat → Prop
  | [] => True
  | v :: q => degN g v (setOf q) ≤ k ∧ Wr g k q

theorem fold_min {F : Nat → Nat} {k : Nat} : ∀ (L : List Nat) (m : Nat), L.foldl (fun m v => min m (F v)) m ≤ k ↔ m ≤ k ∨ ∃ v ∈ L, F v ≤ k
  | [], m => by simp
  | v :: L, m => by
    rw [List.foldl_cons, fold_min L]
    constructor
    · rintro (h | ⟨u, hu, h⟩)
      · by_cases h1 : m ≤ k
        · exact .inl h1
        · exact .inr ⟨v, List.mem_cons_self, by omega⟩
      · exact .inr ⟨u, List.mem_cons_of_mem _ hu, h⟩
    · rintro (h | ⟨u, hu, h⟩)
      · exact .inl (by omega)
      · rcases List.mem_cons.1 hu with rfl | hu
        · exact .inl (by omega)
        · exact .inr ⟨u, hu, h⟩

theorem degN_len {g : List Nat} (hg : GrB g) (v gone : Nat) : degN g v gone ≤ g.length := by
  unfold degN
  exact pop_le_n hg.len (without_lt (without_lt (arN_lt hg _)))

theorem wN_iff {g : List Nat} (hg : GrB g) {k : Nat} : ∀ (S : Nat), S < 2 ^ g.length → (wN g S ≤ k ↔ ∃ q : List Nat, q.Nodup ∧ (∀ i, i ∈ q ↔ S.testBit i = true) ∧ Wr g k q) := by
  intro S
  induction S using Nat.strongRecOn with
  | ind S ih =>
    intro hS
    have hlen := hg.len
    have hpow := hg.pow
    have hS' : S < 1024 := by omega
    rw [wN_eq hS']
    unfold wStep
    by_cases h0 : S = 0
    · rw [if_pos h0]
      subst h0
      exact ⟨fun _ => ⟨[], .nil, by simp, trivial⟩, fun _ => Nat.zero_le _⟩
    · rw [if_neg h0, fold_min (F := fun v => max (wN g (without S (2 ^ v))) (degN g v (without S (2 ^ v))))]
      have hlow := low_bit (Nat.pos_of_ne_zero h0) hS'
      have e1 : (g.length ≤ k ∨ ∃ v ∈ elts S, max (wN g (without S (2 ^ v))) (degN g v (without S (2 ^ v))) ≤ k) ↔ ∃ v, S.testBit v = true ∧ wN g (without S (2 ^ v)) ≤ k ∧ degN g v (without S (2 ^ v)) ≤ k := by
        constructor
        · rintro (h | ⟨v, hv, h⟩)
          · have hT := without_ltv hS' hlow
            have h1 := wN_le (g := g) (S := without S (2 ^ low S)) (by omega)
            have h2 := degN_len hg (low S) (without S (2 ^ low S))
            exact ⟨low S, hlow, by omega, by omega⟩
          · exact ⟨v, (mem_elts hS').1 hv, by omega, by omega⟩
        · rintro ⟨v, hv, h1, h2⟩
          exact .inr ⟨v, (mem_elts hS').2 hv, by omega⟩
      rw [e1]
      constructor
      · rintro ⟨v, hv, h1, h2⟩
        have hT := without_ltv hS' hv
        obtain ⟨q, hq, hm, hw⟩ := (ih _ hT (by omega)).1 h1
        have hset : setOf q = without S (2 ^ v) := Nat.eq_of_testBit_eq fun i => by rw [Bool.eq_iff_iff, setOf_bit, hm]
        refine ⟨v :: q, ?_, fun i => ?_, by rw [hset]; exact h2, hw⟩
        · rw [List.nodup_cons]
          refine ⟨fun h => ?_, hq⟩
          have := (hm v).1 h
          rw [bit_del] at this
          exact this.2 rfl
        · rw [List.mem_cons, hm, bit_del]
          constructor
          · rintro (rfl | h)
            · exact hv
            · exact h.1
          · intro h
            by_cases e : i = v
            · exact .inl e
            · exact .inr ⟨h, e⟩
      · rintro ⟨q, hq, hm, hw⟩
        cases q with
        | nil => exact absurd ((hm _).2 hlow) (by simp)
        | cons v q =>
          rw [List.nodup_cons] at hq
          have hv := (hm v).1 List.mem_cons_self
          have hT := without_ltv hS' hv
          have hm' : ∀ i, i ∈ q ↔ (without S (2 ^ v)).testBit i = true := by
            intro i
            rw [bit_del, ← hm, List.mem_cons]
            constructor
            · intro h; exact ⟨.inr h, fun e => hq.1 (e ▸ h)⟩
            · rintro ⟨h, e⟩; exact h.resolve_left e
          have hset : setOf q = without S (2 ^ v) := Nat.eq_of_testBit_eq fun i => by rw [Bool.eq_iff_iff, setOf_bit, hm']
          refine ⟨v, hv, (ih _ hT (by omega)).2 ⟨q, hq.2, hm', hw.2⟩, ?_⟩
          have := hw.1
          rw [hset] at this
          exact this

theorem wr_ow {g : List Nat} (hg : GrN g) {k : Nat} : ∀ (r q : List Nat), (∀ i, i < g.length ↔ i ∈ q.reverse ++ r) → (q.reverse ++ r).Nodup → (Wr g k (r.reverse ++ q) ↔ Wr g k q ∧ OW (elimL (adj g) q.reverse) r k)
  | [], q, _, _ => by simp [OW]
  | v :: r, q, hl, hn => by
    have e1 : (v :: r).reverse ++ q = r.reverse ++ (v :: q) := by simp
    have e2 : (v :: q).reverse ++ r = q.reverse ++ v :: r := by simp
    rw [e1, wr_ow hg r (v :: q) (by rw [e2]; exact hl) (by rw [e2]; exact hn)]
    have e3 : elimL (adj g) (v :: q).reverse = elim (elimL (adj g) q.reverse) v := by rw [List.reverse_cons, elimL_snoc]
    rw [e3]
    show ((degN g v (setOf q) ≤ k ∧ Wr g k q) ∧ _) ↔ Wr g k q ∧ (r.countP (elimL (adj g) q.reverse v) ≤ k ∧ OW (elim (elimL (adj g) q.reverse) v) r k)
    rw [degN_count hg hl hn]
    constructor
    · rintro ⟨⟨h1, h2⟩, h3⟩; exact ⟨h2, h1, h3⟩
    · rintro ⟨h2, h1, h3⟩; exact ⟨⟨h1, h2⟩, h3⟩

/-- There is an order of a set of at most some width. -/
def OWS (g : List Nat) (S k : Nat) : Prop := ∃ l : List Nat, l.Nodup ∧ (∀ i, i ∈ l ↔ S.testBit i = true) ∧ OW (adj g) l k

theorem wN_all {g : List Nat} (hg : GrN g) {k : Nat} : wN g (allN g) ≤ k ↔ OWS g (allN g) k := by
  rw [wN_iff hg.toGrB _ (allN_lt g)]
  have hall : ∀ i, (allN g).testBit i = true ↔ i < g.length := fun i => by rw [allN_bit, decide_eq_true_iff]
  constructor
  · rintro ⟨q, hq, hm, hw⟩
    have nr : ∀ {q : List Nat}, q.Nodup → q.reverse.Nodup := fun {q} h => (List.reverse_perm q).nodup_iff.2 h
    refine ⟨q.reverse, nr hq, fun i => by rw [List.mem_reverse]; exact hm i, ?_⟩
    have := (wr_ow hg (k := k) q.reverse [] (fun i => by simp only [List.reverse_nil, List.nil_append, List.mem_reverse]; rw [hm, hall]) (by simpa using nr hq)).1 (by simpa using hw)
    exact this.2
  · rintro ⟨l, hn, hm, hw⟩
    have nr : ∀ {q : List Nat}, q.Nodup → q.reverse.Nodup := fun {q} h => (List.reverse_perm q).nodup_iff.2 h
    refine ⟨l.reverse, nr hn, fun i => by rw [List.mem_reverse]; exact hm i, ?_⟩
    have := (wr_ow hg (k := k) l [] (fun i => by simp only [List.reverse_nil, List.nil_append]; rw [hm, hall]) (by simpa using hn)).2 ⟨trivial, hw⟩
    simpa using this

/-! ### Blocks -/
theorem ows_sub {g : List Nat} {S T k : Nat} (h : ∀ i, S.testBit i = true → T.testBit i = true) : OWS g T k → OWS g S k := by
  rintro ⟨l, hn, hm, hw⟩
  refine ⟨l.filter fun i => S.testBit i, hn.filter _, fun i => ?_, hw.sub List.filter_sublist⟩
  rw [List.mem_filter, hm]
  exact ⟨fun h => h.2, fun hi => ⟨h i hi, hi⟩⟩

theorem pop_ltS {a b n i : Nat} (hn : n ≤ 10) (hb : b < 2 ^ n) (h : ∀ j, a.testBit j = true → b.testBit j = true) (hi : b.testBit i = true) (ha : a.testBit i = false) : pop a < pop b :=
  pop_lt (Nat.lt_of_lt_of_le hb (Nat.pow_le_pow_right (by omega) hn)) h hi ha

theorem sub_ltS {a b n : Nat} (hb : b < 2 ^ n) (h : ∀ j, a.testBit j = true → b.testBit j = true) : a < 2 ^ n := by
  refine Nat.lt_pow_two_of_testBit _ fun i hi => ?_
  rw [Bool.eq_false_iff]
  intro hc
  exact absurd (bit_lt hb (h i hc)) (by omega)

/-- A set falls in two parts that meet in at most one node, or has no cut node. -/
theorem split_set {g : List Nat} (hg : GrN g) {S : Nat} (hS : S < 2 ^ g.length) (h0 : S ≠ 0) :
    (∃ A B : Nat, (∀ i, S.testBit i = true ↔ A.testBit i = true ∨ B.testBit i = true) ∧ (∃ b, B.testBit b = true ∧ A.testBit b = false) ∧ (∃ a, A.testBit a = true ∧ B.testBit a = false) ∧ (∃ w, ∀ i, A.testBit i = true → B.testBit i = true → i = w) ∧
      ∀ x y, A.testBit x = true → B.testBit x = false → B.testBit y = true → A.testBit y = false → adj g x y = false)
    ∨ Bi g S := by
  have hlen := hg.len
  have hpow := hg.pow
  have hS' : S < 1024 := by omega
  by_cases hc : Conn g S
  · by_cases hb : Bi g S
    · exact .inr hb
    · left
      obtain ⟨w, hw⟩ := Classical.not_forall.1 hb
      have hwS : S.testBit w = true := by
        cases h : S.testBit w with
        | true => rfl
        | false => rw [del_none h] at hw; exact absurd hc hw
      unfold Conn at hw
      simp only [Classical.not_forall] at hw
      obtain ⟨a, b, ha, hb', hab⟩ := hw
      have hW : without S (2 ^ w) < 1024 := without_lt (n := 10) hS'
      have ha' := bit_del.1 ha
      have hb'' := bit_del.1 hb'
      have ha10 : a < g.length := bit_lt hS ha'.1
      let A' := rch g (without S (2 ^ w)) a
      have hA' : ∀ i, A'.testBit i = true ↔ Rch g (without S (2 ^ w)) a i := fun i => rch_bit (by omega) hW
      have hAS : ∀ i, A'.testBit i = true → S.testBit i = true ∧ i ≠ w := fun i hi => bit_del.1 (((hA' i).1 hi).mem ha)
      have hwA : A'.testBit w = false := by rw [Bool.eq_false_iff]; intro h; exact (hAS w h).2 rfl
      have bA : ∀ i, (A' ||| 2 ^ w).testBit i = true ↔ A'.testBit i = true ∨ i = w := by
        intro i
        rw [Nat.testBit_or, Bool.or_eq_true, Nat.testBit_two_pow, decide_eq_true_iff]
        exact ⟨fun h => h.imp_right Eq.symm, fun h => h.imp_right Eq.symm⟩
      have bB : ∀ i, (without S A').testBit i = true ↔ S.testBit i = true ∧ A'.testBit i = false := by
        intro i; rw [testBit_without, Bool.and_eq_true, Bool.not_eq_true']
      have hbA : A'.testBit b = false := by rw [Bool.eq_false_iff]; intro h; exact hab ((hA' b).1 h)
      refine ⟨A' ||| 2 ^ w, without S A', fun i => ?_, ⟨b, (bB b).2 ⟨hb''.1, hbA⟩, ?_⟩, ⟨a, (bA a).2 (.inl ((hA' a).2 .base)), ?_⟩, ⟨w, fun i h1 h2 => ?_⟩, fun x y h1 h2 h3 h4 => ?_⟩
      · rw [bA, bB]
        constructor
        · intro h
          cases h2 : A'.testBit i with
          | true => exact .inl (.inl rfl)
          | false => exact .inr ⟨h, rfl⟩
        · rintro ((h | rfl) | h)
          · exact (hAS i h).1
          · exact hwS
          · exact h.1
      · rw [Bool.eq_false_iff]
        intro h
        rcases (bA b).1 h with h | h
        · rw [hbA] at h; cases h
        · exact hb''.2 h
      · rw [Bool.eq_false_iff]
        intro h
        have := ((bB a).1 h).2
        rw [(hA' a).2 .base] at this
        cases this
      · have := (bA i).1 h1
        have h3 := (bB i).1 h2
        rcases this with h | h
        · rw [h3.2] at h; cases h
        · exact h
      · rw [Bool.eq_false_iff]
        intro hxy
        have hy := (bB y).1 h3
        have hyw : y ≠ w := fun e => by
          have := (bA y).2 (.inr e)
          rw [h4] at this; cases this
        have hx : A'.testBit x = true := by
          rcases (bA x).1 h1 with h | h
          · exact h
          · subst h
            have := (bB x).2 ⟨hwS, hwA⟩
            rw [h2] at this; cases this
        have := (hA' y).2 (.step ((hA' x).1 hx) hxy (bit_del.2 ⟨hy.1, hyw⟩))
        rw [hy.2] at this; cases this
  · left
    unfold Conn at hc
    simp only [Classical.not_forall] at hc
    obtain ⟨a, b, ha, hb, hab⟩ := hc
    have ha10 : a < g.length := bit_lt hS ha
    let A := rch g S a
    have hA : ∀ i, A.testBit i = true ↔ Rch g S a i := fun i => rch_bit (by omega) hS'
    have hAS : ∀ i, A.testBit i = true → S.testBit i = true := fun i hi => ((hA i).1 hi).mem ha
    have bB : ∀ i, (without S A).testBit i = true ↔ S.testBit i = true ∧ A.testBit i = false := by
      intro i; rw [testBit_without, Bool.and_eq_true, Bool.not_eq_true']
    have hbA : A.testBit b = false := by rw [Bool.eq_false_iff]; intro h; exact hab ((hA b).1 h)
    refine ⟨A, without S A, fun i => ?_, ⟨b, (bB b).2 ⟨hb, hbA⟩, hbA⟩, ⟨a, (hA a).2 .base, ?_⟩, ⟨0, fun i h1 h2 => ?_⟩, fun x y h1 h2 h3 h4 => ?_⟩
    · rw [bB]
      constructor
      · intro h
        cases h2 : A.testBit i with
        | true => exact .inl rfl
        | false => exact .inr ⟨h, rfl⟩
      · rintro (h | h)
        · exact hAS i h
        · exact h.1
    · rw [Bool.eq_false_iff]
      intro h
      have := ((bB a).1 h).2
      rw [(hA a).2 .base] at this
      cases this
    · have := ((bB i).1 h2).2
      rw [h1] at this; cases this
    · rw [Bool.eq_false_iff]
      intro hxy
      have := (hA y).2 (.step ((hA x).1 h1) hxy ((bB y).1 h3).1)
      rw [h4] at this; cases this

/-- What holds of the blocks, of parts, and of what is put together of two parts, holds of all sets. -/
theorem by_blocks {g : List Nat} (hg : GrN g) (Q : Nat → Prop) (hb : ∀ b ∈ blocksP g, Q b) (hsub : ∀ S T, (∀ i, S.testBit i = true → T.testBit i = true) → Q T → Q S) (h0 : Q 0) (h1 : ∀ v, v < g.length → Q (2 ^ v))
    (hglue : ∀ S A B : Nat, (∀ i, S.testBit i = true ↔ A.testBit i = true ∨ B.testBit i = true) → (∃ w, ∀ i, A.testBit i = true → B.testBit i = true → i = w) →
      (∀ x y, A.testBit x = true → B.testBit x = false → B.testBit y = true → A.testBit y = false → adj g x y = false) → Q A → Q B → Q S) :
    ∀ (n S : Nat), pop S ≤ n → S < 2 ^ g.length → Q S := by
  have hlen := hg.len
  have hpow := hg.pow
  intro n
  induction n with
  | zero =>
    intro S hp hS
    have e : S = 0 := pop_zero' (by omega) (by omega)
    rw [e]
    exact h0
  | succ n ih =>
    intro S hp hS
    have hS' : S < 1024 := by omega
    by_cases hz : S = 0
    · subst hz; exact h0
    · rcases split_set hg hS hz with ⟨A, B, hAB, ⟨b, hb1, hb2⟩, ⟨a, ha1, ha2⟩, hw, hne⟩ | hbi
      · have sA : ∀ i, A.testBit i = true → S.testBit i = true := fun i h => (hAB i).2 (.inl h)
        have sB : ∀ i, B.testBit i = true → S.testBit i = true := fun i h => (hAB i).2 (.inr h)
        have pA := pop_ltS hlen hS sA (sB b hb1) hb2
        have pB := pop_ltS hlen hS sB (sA a ha1) ha2
        exact hglue S A B hAB hw hne (ih A (by omega) (sub_ltS hS sA)) (ih B (by omega) (sub_ltS hS sB))
      · by_cases hp2 : 1 < pop S
        · have hc2 := (cand2_iff hg hS).2 ⟨hp2, hbi⟩
          have hcq : candQ g S = true := by unfold candQ; rw [hc2]; simp
          have hple := pop_le_n hlen hS
          obtain ⟨y, hy, hsy⟩ := mx_above hlen (c := candQ g) (10 - pop S) S (by omega) hS hcq
          exact hsub S y (subS_iff.1 hsy) (hb y (mem_blocks.2 hy))
        · have hp1 : pop S = 1 := by
            rcases Nat.lt_or_ge 0 (pop S) with h | h
            · omega
            · exact absurd (pop_zero' hS' (by omega)) hz
          rw [pop_one hS' hp1]
          exact h1 _ (low_lt hg.toGrB hS hz)

theorem ows_blocks {g : List Nat} (hg : GrN g) {k : Nat} : OWS g (allN g) k ↔ ∀ b ∈ blocksP g, OWS g b k := by
  constructor
  · intro h b hb
    refine ows_sub (fun i hi => ?_) h
    rw [allN_bit, decide_eq_true_iff]
    exact bit_lt (blocks_lt hb) hi
  · intro h
    refine by_blocks hg (fun S => OWS g S k) h (fun S T hST hT => ows_sub hST hT) ⟨[], .nil, by simp, trivial⟩ (fun v _ => ⟨[v], by simp, fun i => ?_, ?_, trivial⟩) ?_ (pop (allN g)) (allN g) (Nat.le_refl _) (allN_lt g)
    · rw [List.mem_singleton, Nat.testBit_two_pow, decide_eq_true_iff]; exact eq_comm
    · simp
    · rintro S A B hAB ⟨w, hw⟩ hne ⟨la, na, ma, oa⟩ ⟨lb, nb', mb, ob⟩
      by_cases hwA : A.testBit w = true ∧ B.testBit w = true
      · obtain ⟨m, pm, om⟩ := ow_last hg.symA na oa ((ma w).2 hwA.1)
        have nm : (m ++ [w]).Nodup := pm.nodup_iff.2 na
        rw [List.nodup_append] at nm
        have hm : ∀ x, x ∈ m ↔ A.testBit x = true ∧ x ≠ w := by
          intro x
          have := pm.mem_iff (a := x)
          rw [List.mem_append, List.mem_singleton, ma] at this
          constructor
          · intro hx
            exact ⟨this.1 (.inl hx), fun e => nm.2.2 x hx w (by simp) e⟩
          · rintro ⟨h1, h2⟩
            exact (this.2 h1).resolve_right h2
        have mB : ∀ x ∈ m, B.testBit x = false := by
          intro x hx
          rw [Bool.eq_false_iff]
          intro hB
          exact ((hm x).1 hx).2 (hw x ((hm x).1 hx).1 hB)
        refine ⟨m ++ lb, ?_, fun i => ?_, glue nb' (by simp) (by simp) hg.symA (fun x hx h => ?_) (fun v hv u hu q => ?_) om ob⟩
        · rw [List.nodup_append]
          refine ⟨nm.1, nb', fun x hx y hy e => ?_⟩
          subst e
          have := mB x hx
          rw [(mb x).1 hy] at this; cases this
        · rw [List.mem_append, hm, mb, hAB]
          constructor
          · rintro (h | h)
            · exact .inl h.1
            · exact .inr h
          · rintro (h | h)
            · by_cases e : i = w
              · subst e; exact .inr hwA.2
              · exact .inl ⟨h, e⟩
            · exact .inr h
        · have := mB x hx
          rw [(mb x).1 h] at this; cases this
        · rw [List.mem_singleton]
          refine Classical.byContradiction fun huw => ?_
          have huA : A.testBit u = false := by
            rw [Bool.eq_false_iff]
            intro h; exact huw (hw u h ((mb u).1 hu))
          have := hne v u ((hm v).1 hv).1 (mB v hv) ((mb u).1 hu) huA
          rw [q] at this; cases this
      · have dis : ∀ i, A.testBit i = true → B.testBit i = false := by
          intro i hi
          rw [Bool.eq_false_iff]
          intro hB
          have := hw i hi hB
          subst this
          exact hwA ⟨hi, hB⟩
        refine ⟨la ++ lb, ?_, fun i => ?_, glue (τ := []) nb' .nil (by simp) hg.symA (fun x hx h => ?_) (fun v hv u hu q => ?_) (by rw [List.append_nil]; exact oa) ob⟩
        · rw [List.nodup_append]
          refine ⟨na, nb', fun x hx y hy e => ?_⟩
          subst e
          have := dis x ((ma x).1 hx)
          rw [(mb x).1 hy] at this; cases this
        · rw [List.mem_append, ma, mb, hAB]
        · have := dis x ((ma x).1 hx)
          rw [(mb x).1 h] at this; cases this
        · exfalso
          have huA : A.testBit u = false := by
            rw [Bool.eq_false_iff]
            intro h
            have := dis u h
            rw [(mb u).1 hu] at this; cases this
          have := hne v u ((ma v).1 hv) (dis v ((ma v).1 hv)) ((mb u).1 hu) huA
          rw [q] at this; cases this

/-! ### The graph of some nodes alone -/
theorem ow_map {f : Nat → Nat} {k : Nat} : ∀ (l : List Nat) (a b : Ad), (∀ u ∈ l, ∀ w ∈ l, f u = f w → u = w) → (∀ u ∈ l, ∀ w ∈ l, b u w = a (f u) (f w)) → (OW b l k ↔ OW a (l.map f) k)
  | [], _, _, _, _ => Iff.rfl
  | v :: l, a, b, hi, h => by
    rw [List.map_cons]
    have hc : l.countP (b v) = (l.map f).countP (a (f v)) := by
      rw [List.countP_map]
      refine List.countP_congr fun x hx => ?_
      rw [h v List.mem_cons_self x (List.mem_cons_of_mem _ hx)]
      rfl
    have := ow_map (f := f) (k := k) l (elim a (f v)) (elim b v) (fun u hu w hw => hi u (List.mem_cons_of_mem _ hu) w (List.mem_cons_of_mem _ hw)) (fun u hu w hw => by
      unfold elim
      rw [h u (List.mem_cons_of_mem _ hu) w (List.mem_cons_of_mem _ hw), h v List.mem_cons_self u (List.mem_cons_of_mem _ hu), h v List.mem_cons_self w (List.mem_cons_of_mem _ hw)]
      have : decide (u ≠ w) = decide (f u ≠ f w) := by
        rw [decide_eq_decide]
        exact ⟨fun hne e => hne (hi u (List.mem_cons_of_mem _ hu) w (List.mem_cons_of_mem _ hw) e), fun hne e => hne (by rw [e])⟩
      rw [this])
    show (l.countP (b v) ≤ k ∧ OW (elim b v) l k) ↔ ((l.map f).countP (a (f v)) ≤ k ∧ OW (elim a (f v)) (l.map f) k)
    rw [hc, this]

def eAt (b i : Nat) : Nat := (elts b).getD i 0

theorem eAt_get {b i : Nat} (h : i < pop b) : (elts b)[i]? = some (eAt b i) := by
  rw [← elts_len] at h
  unfold eAt
  rw [List.getD_eq_getElem?_getD, List.getElem?_eq_getElem h]
  rfl

theorem nodup_get {l : List Nat} (hn : l.Nodup) {i j x : Nat} (h1 : l[i]? = some x) (h2 : l[j]? = some x) : i = j := by
  obtain ⟨p1, q1⟩ := List.getElem?_eq_some_iff.1 h1
  obtain ⟨p2, q2⟩ := List.getElem?_eq_some_iff.1 h2
  have := List.pairwise_iff_getElem.1 hn
  rcases Nat.lt_trichotomy i j with h | h | h
  · exact absurd (q1.trans q2.symm) (this i j p1 p2 h)
  · exact h
  · exact absurd (q2.trans q1.symm) (this j i p2 p1 h)

theorem eAt_inj {b i j : Nat} (hi : i < pop b) (hj : j < pop b) (h : eAt b i = eAt b j) : i = j := by
  have h1 := eAt_get hi
  have h2 := eAt_get hj
  rw [h] at h1
  exact nodup_get (elts_nodup b) h1 h2

def withinP (g : List Nat) (b : Nat) : List Nat := (elts b).map fun v => mkS (fun k => adj g v (eAt b k)) (pop b)

theorem within_len (g : List Nat) (b : Nat) : (withinP g b).length = pop b := by unfold withinP; rw [List.length_map, elts_len]

theorem within_adj {g : List Nat} {b i j : Nat} (hi : i < pop b) : adj (withinP g b) i j = (decide (j < pop b) && adj g (eAt b i) (eAt b j)) := by
  unfold adj nb
  rw [List.getD_eq_getElem?_getD]
  unfold withinP
  rw [List.getElem?_map, eAt_get hi]
  simp only [Option.map_some, Option.getD_some]
  rw [mkS_bit]
  rfl

theorem within_big {g : List Nat} {b i j : Nat} (hi : ¬ i < pop b) : adj (withinP g b) i j = false := by
  unfold adj nb
  rw [List.getD_eq_getElem?_getD, List.getElem?_eq_none (by rw [within_len]; omega)]
  simp

theorem within_gr {g : List Nat} (hg : GrN g) {b : Nat} (hb : b < 2 ^ g.length) (h0 : b ≠ 0) : GrN (withinP g b) := by
  have hlen := hg.len
  have hp := pop_le_n hlen hb
  have hb' : b < 1024 := Nat.lt_of_lt_of_le hb hg.pow
  have hp0 : pop b ≠ 0 := fun e => h0 (pop_zero' hb' e)
  refine ⟨⟨by rw [within_len]; omega, fun x hx => ?_⟩, by rw [within_len]; omega, fun a => ?_, fun i j => ?_⟩
  · rw [within_len]
    unfold withinP at hx
    obtain ⟨v, _, rfl⟩ := List.mem_map.1 hx
    exact mkS_lt _ _
  · by_cases h : a < pop b
    · rw [within_adj h, hg.irr]; simp
    · exact within_big h
  · by_cases hi : i < pop b
    · by_cases hj : j < pop b
      · rw [within_adj hi, within_adj hj, hg.sym, decide_eq_true hi, decide_eq_true hj]
      · rw [within_adj hi, within_big hj, decide_eq_false hj]; rfl
    · by_cases hj : j < pop b
      · rw [within_adj hj, within_big hi, decide_eq_false hi]; rfl
      · rw [within_big hi, within_big hj]

theorem lift_list {n : Nat} {f : Nat → Nat} : ∀ (l : List Nat), (∀ i ∈ l, ∃ j, j < n ∧ f j = i) → ∃ l' : List Nat, l'.map f = l ∧ ∀ j ∈ l', j < n
  | [], _ => ⟨[], rfl, by simp⟩
  | i :: l, h => by
    obtain ⟨l', h1, h2⟩ := lift_list l fun i hi => h i (List.mem_cons_of_mem _ hi)
    obtain ⟨j, hj, e⟩ := h i List.mem_cons_self
    refine ⟨j :: l', by rw [List.map_cons, e, h1], fun x hx => ?_⟩
    rcases List.mem_cons.1 hx with rfl | hx
    · exact hj
    · exact h2 x hx

theorem ows_within {g : List Nat} {b k : Nat} (hb' : b < 1024) : OWS (withinP g b) (allN (withinP g b)) k ↔ OWS g b k := by
  have hall : ∀ i, (allN (withinP g b)).testBit i = true ↔ i < pop b := fun i => by rw [allN_bit, decide_eq_true_iff, within_len]
  have hmem : ∀ i, b.testBit i = true ↔ ∃ j, j < pop b ∧ eAt b j = i := by
    intro i
    rw [← mem_elts hb']
    constructor
    · intro h
      obtain ⟨j, hj⟩ := List.mem_iff_getElem?.1 h
      have hjl : j < pop b := by rw [← elts_len]; exact (List.getElem?_eq_some_iff.1 hj).1
      rw [eAt_get hjl] at hj
      exact ⟨j, hjl, Option.some.inj hj⟩
    · rintro ⟨j, hj, rfl⟩
      exact List.mem_of_getElem? (eAt_get hj)
  constructor
  · rintro ⟨l, hn, hm, hw⟩
    have hlt : ∀ u ∈ l, u < pop b := fun u hu => (hall u).1 ((hm u).1 hu)
    refine ⟨l.map (eAt b), ?_, fun i => ?_, (ow_map l (adj g) (adj (withinP g b)) (fun u hu w hw e => eAt_inj (hlt u hu) (hlt w hw) e) (fun u hu w hw => by rw [within_adj (hlt u hu), decide_eq_true (hlt w hw)]; rfl)).1 hw⟩
    · unfold List.Nodup
      rw [List.pairwise_map]
      exact List.Pairwise.imp_of_mem (fun {u w} hu hw hne e => hne (eAt_inj (hlt u hu) (hlt w hw) e)) hn
    · rw [List.mem_map, hmem]
      constructor
      · rintro ⟨j, hj, e⟩; exact ⟨j, hlt j hj, e⟩
      · rintro ⟨j, hj, e⟩; exact ⟨j, (hm j).2 ((hall j).2 hj), e⟩
  · rintro ⟨l, hn, hm, hw⟩
    obtain ⟨l', rfl, hlt⟩ := lift_list (f := eAt b) (n := pop b) l fun i hi => (hmem i).1 ((hm i).1 hi)
    refine ⟨l', ?_, fun i => ?_, (ow_map l' (adj g) (adj (withinP g b)) (fun u hu w hw e => eAt_inj (hlt u hu) (hlt w hw) e) (fun u hu w hw => by rw [within_adj (hlt u hu), decide_eq_true (hlt w hw)]; rfl)).2 hw⟩
    · unfold List.Nodup at hn
      rw [List.pairwise_map] at hn
      exact hn.imp fun hne e => hne (by rw [e])
    · rw [hall]
      constructor
      · exact hlt i
      · intro h
        have := (hm (eAt b i)).2 ((hmem _).2 ⟨i, h, rfl⟩)
        obtain ⟨j, hj, e⟩ := List.mem_map.1 this
        have := eAt_inj (hlt j hj) h e
        subst this; exact hj

/-- THE WIDTH OF A GRAPH AND OF ITS BLOCKS. -/
theorem width_blocks {g : List Nat} (hg : GrN g) (k : Nat) : wN g (allN g) ≤ k ↔ ∀ b ∈ blocksP g, wN (withinP g b) (allN (withinP g b)) ≤ k := by
  have hpow := hg.pow
  rw [wN_all hg, ows_blocks hg]
  refine ⟨fun h b hb => ?_, fun h b hb => ?_⟩
  all_goals
    have hlt := blocks_lt hb
    have h0 : b ≠ 0 := by
      have := (mem_cands.1 (List.mem_filter.1 hb).1).1
      omega
  · rw [wN_all (within_gr hg hlt h0), ows_within (by omega)]
    exact h b hb
  · have := h b hb
    rw [wN_all (within_gr hg hlt h0), ows_within (by omega)] at this
    exact this

end Go.AM

end

section

/- PLAIN: renaming the nodes of a graph. -/
namespace Go.AM
open Go.Proofs
/-- The nodes of one graph as those of another one. -/
structure Iso (g h : List Nat) (f f' : Nat → Nat) : Prop where
  len : h.length = g.length
  lt : ∀ i, i < g.length → f i < g.length
  lt' : ∀ i, i < g.length → f' i < g.length
  inv : ∀ i, i < g.length → f' (f i) = i
  inv' : ∀ i, i < g.length → f (f' i) = i
  adj : ∀ a b, a < g.length → b < g.length → AM.adj h (f a) (f b) = AM.adj g a b

theorem Iso.symm {g h : List Nat} {f f' : Nat → Nat} (s : Iso g h f f') : Iso h g f' f := by
  have hl := s.len
  refine ⟨hl.symm, fun i hi => by rw [hl] at hi ⊢; exact s.lt' i hi, fun i hi => by rw [hl] at hi ⊢; exact s.lt i hi, fun i hi => by rw [hl] at hi; exact s.inv' i hi, fun i hi => by rw [hl] at hi; exact s.inv i hi, fun a b ha hb => ?_⟩
  rw [hl] at ha hb
  rw [← s.adj _ _ (s.lt' a ha) (s.lt' b hb), s.inv' a ha, s.inv' b hb]

section
variable {g h : List Nat} {f f' : Nat → Nat} (s : Iso g h f f')
include s
end
/-! ### Pairs in order, and how many there are -/
/-- All pairs of numbers below n, the smaller one first. -/
def pairL (n : Nat) (p : Nat → Nat → Bool) : List (Nat × Nat) := (List.range n).flatMap fun a => ((List.range (n - 1 - a)).filter fun j => p a (a + 1 + j)).map fun j => (a, a + 1 + j)

theorem foldI_flat {α β : Type} {F : α → List β → List β} {G : α → List β} (h : ∀ x s, F x s = s ++ G x) : ∀ (l : List α) (i : Nat) (s : List β), foldI (fun _ x s => F x s) l i s = s ++ l.flatMap G := by
  intro l
  induction l with
  | nil => intro i s; simp [foldI]
  | cons x l ih => intro i s; simp only [foldI]; rw [ih, h, List.flatMap_cons, List.append_assoc]

theorem pairRow_eq {g : List Nat} {a : Nat} {acc : List (Nat × Nat)} : pairRow g a acc = acc ++ ((List.range (g.length - 1 - a)).filter fun j => partsP g a (a + 1 + j)).map fun j => (a, a + 1 + j) := by
  unfold pairRow pairIn
  exact foldI_filter (p := fun j => partsP g a (a + 1 + j)) (f := fun j => (a, a + 1 + j)) _ _ _

theorem pairs_pairL (g : List Nat) : pairsP g = pairL g.length (partsP g) := by
  have := foldI_flat (F := pairRow g) (fun a s => pairRow_eq (g := g) (a := a) (acc := s)) (List.range g.length) 0 []
  rw [List.nil_append] at this
  exact this

theorem mem_pairL {n : Nat} {p : Nat → Nat → Bool} {e : Nat × Nat} : e ∈ pairL n p ↔ e.1 < e.2 ∧ e.2 < n ∧ p e.1 e.2 = true := by
  unfold pairL
  rw [List.mem_flatMap]
  constructor
  · rintro ⟨a, ha, h⟩
    rw [List.mem_map] at h
    obtain ⟨j, hj, rfl⟩ := h
    rw [List.mem_filter, List.mem_range] at hj
    exact ⟨by simp only; omega, by simp only; omega, hj.2⟩
  · rintro ⟨h1, h2, h3⟩
    refine ⟨e.1, List.mem_range.2 (by omega), ?_⟩
    rw [List.mem_map]
    refine ⟨e.2 - e.1 - 1, ?_, Prod.ext rfl (by simp only; omega)⟩
    rw [List.mem_filter, List.mem_range]
    refine ⟨by omega, ?_⟩
    rw [show e.1 + 1 + (e.2 - e.1 - 1) = e.2 by omega]
    exact h3

end Go.AM

end

section

/- Law 3: the width of a graph is the greatest width of one of its blocks. -/
namespace Go.AM
open Go.Proofs
variable {k : Nat} {R : Type}
attribute [local simp] nx_eq nx_new nx_set blk_new blk_set asI_int asK_int asB_bool asP_ptr al_eq bx_eq len_slice onE_exit onE_ret onR_ret Value.cells d3 d22 d23 cell_new cell_set rd_new rd_set off eq lt le ifB gv out
theorem bls23 (z : Int) (h : H) : buildSlice Tryd.prog 23 1 [(0, .int .i64 z)] h = some (.slice (some ⟨h.nx, 0, none⟩) 1 1, h.new (.row [iv z] 3 true)) := by kernel_rfl

/-- A graph is valid. -/
theorem valid_of {g : List Nat} (hg : GrN g) : validG (g.map Int.ofNat) = true := by
  have hlen := hg.len
  have hpos := hg.pos
  have hpow := hg.pow
  rw [validG_iff (by simpa using ⟨hpos, hlen⟩)]
  intro i x hx
  have hi : i < g.length := by have := (List.getElem?_eq_some_iff.1 hx).1; simpa using this
  obtain rfl := nb_eq hx
  have hlt := hg.nb_lt i
  unfold rowOk
  simp only [Bool.and_eq_true, Bool.not_eq_true', decide_eq_false_iff_not, List.all_eq_true, List.mem_range, decide_eq_true_iff, List.length_map]
  refine ⟨⟨⟨by omega, ?_⟩, ?_⟩, fun j hj => ?_⟩
  · rw [shl1_nat (by omega)]; omega
  · rw [bitI_nat (by omega) (by omega)]
    have : (nb g i).testBit i = false := hg.irr i
    rw [this]; simp
  · have h1 : (List.map Int.ofNat g).getD j 0 = ((nb g j : Nat) : Int) := by
      rw [List.getD_eq_getElem?_getD, nb_get hj]; rfl
    have hlt' := hg.nb_lt j
    rw [h1, bitI_nat (by omega) (by omega), bitI_nat (by omega) (by omega)]
    have : (nb g i).testBit j = (nb g j).testBit i := hg.sym i j
    rw [this]

theorem s11 {v : Value} {l : List Int} {h : H} (hs : SlR h 3 1 v (cellsI l)) : ∃ v' h', rn 11 #[v] h = some (v', h') ∧ Exw h h' ∧ SlR h' 3 1 v' (cellsI (l.take 13)) := by
  have e1 : imin ((cellsI l).length : Int) 13 = ((min l.length 13 : Nat) : Int) := by
    rw [List.length_map]
    unfold imin
    split <;> omega
  obtain ⟨v1, s1, e2⟩ := hs.take (i := ((min l.length 13 : Nat) : Int)) under23 sz3 (by omega) (by rw [List.length_map]; omega)
  have e3 : (cellsI l).take ((min l.length 13 : Nat) : Int).toNat = cellsI (l.take 13) := by
    rw [Int.toNat_natCast, ← List.map_take]
    congr 1
    rcases Nat.le_total l.length 13 with h1 | h1
    · rw [Nat.min_eq_left h1, List.take_of_length_le (Nat.le_refl _), List.take_of_length_le h1]
    · rw [Nat.min_eq_right h1]
  rw [e3] at s1
  obtain ⟨v', h', e4, x, s, a, n, c, rfl⟩ := s38 s1 (by rw [List.length_map, List.length_take]; omega)
  obtain ⟨h2, e5, m2, w2⟩ := x11 (k := 0) (h := h) (v0 := v) (h1 := h') (v := .slice a n c) (by
    unfold f11
    rw [hs.len, e1, e2, calls_eq e4]) rfl
  exact ⟨_, h2, e5, w2 x.toExt, s.ext m2.ext⟩

theorem s11g {v : Value} {g : List Nat} {h : H} (hg : GrB g) (hs : SlR h 3 1 v (cellsN g)) : ∃ v' h', rn 11 #[v] h = some (v', h') ∧ Exw h h' ∧ SlR h' 3 1 v' (cellsN g) := by
  have hlen := hg.len
  obtain ⟨v', h', e, x, s⟩ := s11 (l := g.map Int.ofNat) (by rw [cellsN_eq]; exact hs)
  refine ⟨v', h', e, x, ?_⟩
  rw [List.take_of_length_le (by simp; omega), cellsN_eq] at s
  exact s

/-! ### The graph of some nodes -/
def cntB (S i : Nat) : Nat := ((List.range i).filter fun u => S.testBit u).length

theorem cntB_succ (S i : Nat) : cntB S (i + 1) = cntB S i + if S.testBit i = true then 1 else 0 := by
  unfold cntB
  rw [List.range_succ, List.filter_append, List.length_append]
  congr 1
  by_cases h : S.testBit i = true <;> simp [h]

theorem elts_pre {S n i : Nat} (hn : n ≤ 10) (hS : S < 2 ^ n) (hi : i < n) : elts S = ((List.range i).filter fun u => S.testBit u) ++ ((List.range' i (n - i)).filter fun u => S.testBit u) := by
  rw [elts_n hn hS, ← List.filter_append]
  congr 1
  rw [List.range_eq_range', List.range_eq_range']
  have := List.range'_append (s := 0) (m := i) (n := n - i) (step := 1)
  simp only [Nat.zero_add, Nat.one_mul] at this
  rw [this]
  congr 1
  omega

theorem eAt_cnt {S n i : Nat} (hn : n ≤ 10) (hS : S < 2 ^ n) (hi : i < n) (hb : S.testBit i = true) : eAt S (cntB S i) = i := by
  unfold eAt cntB
  rw [elts_pre hn hS hi, List.getD_eq_getElem?_getD, List.getElem?_append_right (Nat.le_refl _), Nat.sub_self]
  obtain ⟨m, hm⟩ : ∃ m, n - i = m + 1 := ⟨n - i - 1, by omega⟩
  rw [hm, List.range'_succ, List.filter_cons_of_pos hb]
  rfl

theorem cntB_all {S n : Nat} (hn : n ≤ 10) (hS : S < 2 ^ n) : cntB S n = pop S := by
  rw [← elts_len, elts_n hn hS]; rfl

theorem cntB_le (S i : Nat) : cntB S i ≤ i := by
  unfold cntB
  have := List.length_filter_le (fun u => S.testBit u) (List.range i)
  rwa [List.length_range] at this

theorem s13 {v : Value} {g : List Nat} {S : Nat} {h : H} (hg : GrB g) (hS : S < 2 ^ g.length) (hs : SlR h 3 1 v (cellsN g)) :
    ∃ v' h', rn 13 #[v, iv S] h = some (v', h') ∧ Exw h h' ∧ SlR h' 3 1 v' (cellsN (withinP g S)) := by
  have hlen := hg.len
  have hpow := hg.pow
  have hn : ∀ {T : Type} (K : Int → Option T), len v K = K (g.length : Int) := fun K => by rw [hs.len]; simp
  let F : Nat → Nat := fun u => mkS (fun k => adj g u (eAt S k)) (pop S)
  -- the row of a node
  have inner : ∀ (u : Nat), u < g.length → ∀ g' : H, ∃ w, lpGo (f13_l2 rn 2000 S (nb g u) g.length) 2000 [iv 0, iv 0, iv 0] g' = some (.exit 2, [iv (F u), w, iv g.length], g') := by
    intro u hu g'
    have hnu := hg.nb_lt u
    obtain ⟨e, ws', h', hl, rfl, rfl, w, rfl⟩ := lp_range (F := f13_l2 rn 2000 S (nb g u) g.length) (k := 2000) (n := g.length)
      (fun i ws g2 => g2 = g' ∧ ws = [iv (mkS (fun k => adj g u (eAt S k)) (cntB S i) : Nat), iv (cntB S i : Nat), iv i])
      (fun e ws g2 => e = .exit 2 ∧ g2 = g' ∧ ∃ w, ws = [iv (F u), w, iv g.length])
      (by
        rintro i ws g2 hi ⟨rfl, rfl⟩
        have hadd : add .i64 (i : Int) 1 = ((i + 1 : Nat) : Int) := by rw [add64 (by omega) (by omega)]; omega
        have hb1 : AM.and .i64 (shr .i64 (S : Int) (i : Int)) 1 = if S.testBit i then 1 else 0 := bit_nat (by omega) (by omega)
        have hb2 : AM.and .i64 (shr .i64 ((nb g u : Nat) : Int) (i : Int)) 1 = if (nb g u).testBit i then 1 else 0 := bit_nat (by omega) (by omega)
        have hc := cntB_le S i
        have hadd2 : add .i64 ((cntB S i : Nat) : Int) 1 = ((cntB S i + 1 : Nat) : Int) := by rw [add64 (by omega) (by omega)]; omega
        have hsh : AM.shl .i64 (if (nb g u).testBit i then 1 else 0) ((cntB S i : Nat) : Int) = ((if (nb g u).testBit i = true then 2 ^ cntB S i else 0 : Nat) : Int) := by
          have hp : 2 ^ cntB S i < 2 ^ 63 := Nat.pow_lt_pow_right (by omega) (by omega)
          by_cases hq : (nb g u).testBit i = true
          · rw [if_pos hq, if_pos hq, shl1_nat (by omega)]
          · rw [if_neg hq, if_neg hq]
            have := shl_nat (a := 0) (p := cntB S i) (by omega) (by omega)
            simpa using this
        refine ⟨.normal, _, g2, ?_, .inl ⟨rfl, rfl, rfl⟩⟩
        unfold f13_l2
        rw [show gv [iv (mkS (fun k => adj g u (eAt S k)) (cntB S i) : Nat), iv (cntB S i : Nat), iv i] 2 = iv i from rfl, asI_int, lt_t (by omega), ifB_true, asK_int, nn_ge (by omega), hb1]
        by_cases hb : S.testBit i = true
        · have hx : mkS (fun k => adj g u (eAt S k)) (cntB S i) < 1024 := Nat.lt_of_lt_of_le (mkS_lt _ _) (show 2 ^ cntB S i ≤ 2 ^ 10 from Nat.pow_le_pow_right (by omega) (by omega))
          have hy : (if (nb g u).testBit i = true then 2 ^ cntB S i else 0 : Nat) < 1024 := by
            have : 2 ^ cntB S i < 2 ^ 10 := Nat.pow_lt_pow_right (by omega) (by omega)
            split <;> omega
          have hor : AM.or .i64 ((mkS (fun k => adj g u (eAt S k)) (cntB S i) : Nat) : Int) ((if (nb g u).testBit i = true then 2 ^ cntB S i else 0 : Nat) : Int) = ((mkS (fun k => adj g u (eAt S k)) (cntB S (i + 1)) : Nat) : Int) := by
            rw [or_nat (by omega) (by omega), cntB_succ, if_pos hb]
            simp only [mkS]
            have : adj g u (eAt S (cntB S i)) = (nb g u).testBit i := by rw [eAt_cnt hlen hS hi hb]; rfl
            simp only [this]
          rw [if_pos hb, show AM.eq 1 1 = true from rfl, ifB_true, asK_int, nn_ge (by omega), show gv [iv (mkS (fun k => adj g u (eAt S k)) (cntB S i) : Nat), iv (cntB S i : Nat), iv i] 1 = iv (cntB S i : Nat) from rfl, asK_int, nn_ge (by omega), show gv [iv (mkS (fun k => adj g u (eAt S k)) (cntB S i) : Nat), iv (cntB S i : Nat), iv i] 0 = iv (mkS (fun k => adj g u (eAt S k)) (cntB S i) : Nat) from rfl, asI_int, asI_int, hb2, hsh, hor, asI_int, hadd, hadd2, cntB_succ, if_pos hb]
          rfl
        · rw [if_neg hb, show AM.eq 0 1 = false from rfl, ifB_false, asI_int, hadd, cntB_succ, if_neg hb]
          rfl)
      (by
        rintro ws g2 ⟨rfl, rfl⟩
        refine ⟨.exit 2, _, g2, ?_, by simp, rfl, rfl, iv (cntB S g.length : Nat), rfl⟩
        unfold f13_l2
        rw [show gv [iv (mkS (fun k => adj g u (eAt S k)) (cntB S g.length) : Nat), iv (cntB S g.length : Nat), iv (g.length : Nat)] 2 = iv g.length from rfl, asI_int, lt_f (by omega), ifB_false, cntB_all hlen hS]
        rfl) (ws := [iv 0, iv 0, iv 0]) (h := g') (by omega) ⟨rfl, rfl⟩
    exact ⟨w, hl⟩
  obtain ⟨e, ws', h', hl, rfl, xg, v', hap, w, rfl⟩ := lp_range (F := f13_l1 rn 2000 v S g.length) (k := 2000) (n := g.length)
    (fun i ws g' => Ext h g' ∧ ∃ v', ws = [v', iv i] ∧ AqR h.nx g' 3 1 v' (cellsN (((List.range i).filter fun u => S.testBit u).map F)))
    (fun e ws g' => e = .exit 0 ∧ Ext h g' ∧ ∃ v', AqR h.nx g' 3 1 v' (cellsN (withinP g S)) ∧ ∃ w, ws = [v', w])
    (by
      rintro i ws g' hi ⟨xg, v', rfl, hap⟩
      have hadd : add .i64 (i : Int) 1 = ((i + 1 : Nat) : Int) := by rw [add64 (by omega) (by omega)]; omega
      have hb1 : AM.and .i64 (shr .i64 (S : Int) (i : Int)) 1 = if S.testBit i then 1 else 0 := bit_nat (by omega) (by omega)
      have e1 := fun (K : Value → Option (Ex × List Value × H)) => getN (hs.ext xg) hi K
      by_cases hb : S.testBit i = true
      · obtain ⟨w, hw⟩ := inner i hi g'
        have hcl := cntB_le S i
        obtain ⟨v2, g2, e2, a2, n2, k2, b2, hb2, hb2'⟩ := hap.push app23 app23 (bls23 (F i : Int)) rfl rfl (by simp only [List.length_map]; unfold cntB at hcl; omega) xg.nx
        have ee : ∀ (K : Value → H → Option (Ex × List Value × H)), (bls Tryd.prog g' 23 1 [(0, iv (F i : Nat))] fun y h2 => app Tryd.prog h2 23 23 v' y K) = K v2 g2 := fun K => e2 K
        refine ⟨.normal, [v2, iv ((i + 1 : Nat) : Int)], g2, ?_, .inl ⟨rfl, ⟨by have := xg.nx; omega, fun b hb => ?_⟩, v2, rfl, ?_⟩⟩
        · unfold f13_l1
          simp only [d3]
          rw [show gv [v', iv (i : Int)] 1 = iv i from rfl, asI_int, lt_t (by omega), ifB_true, asK_int, e1, asI_int, asK_int, nn_ge (by omega), hb1, if_pos hb, show AM.eq 1 0 = false from rfl, ifB_false, hn, lp_eq hw, onE_exit, if_pos rfl]
          rw [show gv [iv ((F i : Nat) : Int), w, iv (g.length : Int)] 0 = iv (F i : Nat) from rfl, show gv [v', iv (i : Int)] 0 = v' from rfl, ee, asI_int, hadd]
          rfl
        · rw [k2 b (by have := xg.nx; omega) (fun e => by have := (hap.blkOf e).1; omega)]
          exact xg.blk b hb
        · have : cellsN (((List.range (i + 1)).filter fun u => S.testBit u).map F) = cellsN (((List.range i).filter fun u => S.testBit u).map F) ++ [[iv (F i : Int)]] := by
            rw [List.range_succ, List.filter_append]
            simp [hb]
          rw [this]; exact a2
      · refine ⟨.normal, [v', iv ((i + 1 : Nat) : Int)], g', ?_, .inl ⟨rfl, xg, v', rfl, ?_⟩⟩
        · unfold f13_l1
          simp only [d3]
          rw [show gv [v', iv (i : Int)] 1 = iv i from rfl, asI_int, lt_t (by omega), ifB_true, asK_int, e1, asI_int, asK_int, nn_ge (by omega), hb1, if_neg hb, show AM.eq 0 0 = true from rfl, ifB_true, asI_int, hadd]
          rfl
        · have : ((List.range (i + 1)).filter fun u => S.testBit u) = (List.range i).filter fun u => S.testBit u := by
            rw [List.range_succ, List.filter_append]
            simp [hb]
          rw [this]; exact hap)
    (by
      rintro ws g' ⟨xg, v', rfl, hap⟩
      refine ⟨.exit 0, _, g', ?_, by simp, rfl, xg, v', ?_, iv g.length, rfl⟩
      · unfold f13_l1
        rw [show gv [v', iv (g.length : Int)] 1 = iv g.length from rfl, asI_int, lt_f (by omega), ifB_false]
        rfl
      · rw [← elts_n hlen hS] at hap
        exact hap)
    (ws := [.slice none 0 0, iv 0]) (h := h) (by omega) ⟨.refl _, .slice none 0 0, rfl, .nil⟩
  obtain ⟨h2, e2, m2, w2⟩ := x13 (k := 2000) (v0 := v) (n0 := S) (h := h) (h1 := h') (v := v') (by
    unfold f13
    rw [hn, lp_eq hl, onE_exit, if_pos rfl]
    rfl) (by obtain ⟨x, y, z, hz⟩ := hap.isSl; rw [hz]; rfl)
  exact ⟨v', h2, e2, w2 xg, hap.slR.ext m2.ext⟩

theorem pop_pos {b : Nat} (hb : b < 1024) (h0 : b ≠ 0) : 0 < pop b := Nat.pos_of_ne_zero fun e => h0 (pop_zero' hb e)

/-- The law. -/
theorem s3 (s9 : ∀ h, rn 9 #[] h = some (.bool true, h)) {h : H} {v : Value} {l : List Int} (hs : SlR h 3 1 v (cellsI l)) : ∃ h', rn 3 #[v] h = some (.bool true, h') := by
  have c9 := fun (g : H) (K : Value → H → Option (Value × H)) => calls_eq (K := K) (xs := []) (s9 g)
  have c8 := fun (K : Value → H → Option (Value × H)) => calls_eq (K := K) (xs := [v]) (s8 hs)
  have hn : ∀ {T : Type} (K : Int → Option T), len v K = K (l.length : Int) := fun K => by rw [hs.len]; simp
  by_cases hval : validG l = true
  · obtain ⟨g, rfl, hg⟩ := valid_nat hval
    have hlen := hg.len
    have hpow := hg.pow
    by_cases h9 : g.length ≤ 9
    · rw [cellsN_eq] at hs
      obtain ⟨v4, h4, e4, x4, hs4⟩ := s11g hg.toGrB hs
      obtain ⟨v6, h5, e5, x5, hs6⟩ := s10 hg hval hs4
      have hs5 := hs.ext (x4.tr x5).toExt
      obtain ⟨v8, h6, e6, x6, hs8⟩ := s11g hg.toGrB hs5
      have e7 := s12 hg.toGrB hval h9 hs8
      have hs7 := hs5.ext x6.toExt
      have hb7 := hs6.ext x6.toExt
      have hbl := blocks_len hg.toGrB
      have hnb : ∀ {T : Type} (K : Int → Option T), len v6 K = K ((blocksP g).length : Int) := fun K => by rw [hs6.len]; simp
      -- the greatest width of a block
      obtain ⟨ws', h', hl, xh, w, rfl⟩ := lp_for (F := f3_l1 rn 20000 v v6 (blocksP g).length) (k := 20000) (l := blocksP g) (fun _ b m => max m (wN (withinP g b) (allN (withinP g b))))
        (fun i m ws g' => Ext h6 g' ∧ ∃ w, ws = [w, iv m, iv i]) 0 (ws := [.bool false, iv 0, iv 0]) (h := h6) (s0 := 0) ⟨.refl _, _, rfl⟩ (by omega)
        (by
          rintro m ws g' ⟨_, w, rfl⟩
          simp [f3_l1])
        (by
          rintro i b m ws g' hx ⟨xg, w, rfl⟩
          have hi := (List.getElem?_eq_some_iff.1 hx).1
          have hbm := List.mem_of_getElem? hx
          have hb := blocks_lt hbm
          have hb0 := (mem_cands.1 (List.mem_filter.1 hbm).1).1
          have hgw := within_gr hg hb (by omega)
          have hpl := pop_le_n hlen hb
          obtain ⟨v13, g2, e13, x13, hs13⟩ := s13 hg.toGrB hb (hs7.ext xg)
          have e12 := s12 hgw.toGrB (valid_of hgw) (by rw [within_len]; omega) hs13
          have e1 : ∀ (K : Value → Option (Ex × List Value × H)), (six v6 (i : Int) 1 fun b o => (g'.cell b o).bind K) = K (iv b) := fun K => (hb7.ext xg).c0 (by omega) (x := [iv b]) (by simp [hx]) rfl K
          have hadd : add .i64 (i : Int) 1 = ((i + 1 : Nat) : Int) := by rw [add64 (by omega) (by omega)]; omega
          refine ⟨_, g2, ?_, xg.trans x13.toExt, w, rfl⟩
          unfold f3_l1
          simp only [d3]
          rw [show gv [w, iv (m : Int), iv (i : Int)] 2 = iv i from rfl, asI_int, lt_t (by omega), ifB_true, asK_int, e1, asI_int, lt_f (by omega), ifB_false, hn, List.length_map, nn_ge (by omega), shl1_nat (by omega), show AM.le ((2 ^ g.length : Nat) : Int) (b : Int) = false from decide_eq_false (by omega), ifB_false, calls_eq (xs := [v, iv b]) e13, calls_eq (xs := [v13]) e12, ext20, asI_int, ext21, asI_int, show AM.eq 0 0 = true from rfl, show (!true) = false from rfl, ifB_false, show gv [w, iv (m : Int), iv (i : Int)] 1 = iv m from rfl, asI_int, asI_int, hadd, imax_nat]
          rfl)
      have hmax : wN g (allN g) = foldI (fun _ b m => max m (wN (withinP g b) (allN (withinP g b)))) (blocksP g) 0 0 := by
        rw [foldI_foldl (fun b m => max m (wN (withinP g b) (allN (withinP g b))))]
        have key : ∀ (L : List Nat) (m k : Nat), L.foldl (fun m b => max m (wN (withinP g b) (allN (withinP g b)))) m ≤ k ↔ m ≤ k ∧ ∀ b ∈ L, wN (withinP g b) (allN (withinP g b)) ≤ k := by
          intro L
          induction L with
          | nil => intro m k; simp
          | cons b L ih =>
            intro m k
            rw [List.foldl_cons, ih]
            constructor
            · rintro ⟨h1, h2⟩
              refine ⟨by omega, fun x hx => ?_⟩
              rcases List.mem_cons.1 hx with rfl | hx
              · omega
              · exact h2 x hx
            · rintro ⟨h1, h2⟩
              exact ⟨Nat.max_le.2 ⟨h1, h2 b List.mem_cons_self⟩, fun x hx => h2 x (List.mem_cons_of_mem _ hx)⟩
        refine Nat.le_antisymm ?_ ?_
        · exact (width_blocks hg _).2 ((key _ _ _).1 (Nat.le_refl _)).2
        · exact (key _ _ _).2 ⟨Nat.zero_le _, (width_blocks hg _).1 (Nat.le_refl _)⟩
      refine ⟨_, t3 (k := 20000) (v0 := v) (h1 := h') (v := .bool true) ?_⟩
      unfold f3
      rw [c8, hval, asB_bool, show (!true) = false from rfl, ifB_false, hn, List.length_map, lt_f (by omega), ifB_false, calls_eq (xs := [v]) e4, calls_eq (xs := [v4]) e5, ext20, ext21, asI_int, calls_eq (xs := [v]) e6, calls_eq (xs := [v8]) e7, ext20, asI_int, ext21, asI_int]
      simp only [show AM.eq 0 0 = true from rfl, Bool.not_true, ifB_false]
      rw [hnb, lp_eq hl, onE_exit, if_pos rfl, show gv [w, iv ((foldI (fun _ b m => max m (wN (withinP g b) (allN (withinP g b)))) (blocksP g) 0 0 : Nat) : Int), iv ((blocksP g).length : Int)] 1 = iv (foldI (fun _ b m => max m (wN (withinP g b) (allN (withinP g b)))) (blocksP g) 0 0 : Nat) from rfl, asI_int, ← hmax, show AM.eq ((wN g (allN g) : Nat) : Int) ((wN g (allN g) : Nat) : Int) = true by simp, ifB_true, c9, asB_bool]
    · refine ⟨_, t3 (k := 0) (v0 := v) (h1 := h) (v := .bool true) ?_⟩
      unfold f3
      rw [c8, hval, asB_bool, show (!true) = false from rfl, ifB_false, hn, List.length_map, lt_t (by omega), ifB_true, c9, asB_bool]
  · refine ⟨_, t3 (k := 0) (v0 := v) (h1 := h) (v := .bool true) ?_⟩
    unfold f3
    rw [c8, asB_bool, show validG l = false by simpa using hval, show (!false) = true from rfl, ifB_true, c9, asB_bool]

end Go.AM

end

section

/- PLAIN: outer orders: no two edges cross. Where each edge is in at most one cycle there is one; where there is one, the width is at most 2. -/
namespace Go.AM
open Go.Proofs
/-! ### A cycle -/
/-- A way without repetition, backward: each next one has an edge to the one before. -/
structure PathL (g : List Nat) (S : Nat) (l : List Nat) : Prop where
  nd : l.Nodup
  on : ∀ x ∈ l, S.testBit x = true
  ch : ∀ i x y, l[i]? = some x → l[i + 1]? = some y → adj g x y = true

theorem path_max {g : List Nat} {S v : Nat} (hS : S < 1024) (hv : S.testBit v = true) : ∃ (x : Nat) (l : List Nat), PathL g S (x :: l) ∧ ∀ z, S.testBit z = true → adj g z x = true → z ∈ x :: l := by
  have h1 : PathL g S [v] := ⟨by simp, by simpa using hv, fun i x y _ hy => by simp at hy⟩
  have key : ∀ (d : Nat) (x : Nat) (l : List Nat), PathL g S (x :: l) → (x :: l).length + d = 11 → ∃ (x : Nat) (l : List Nat), PathL g S (x :: l) ∧ ∀ z, S.testBit z = true → adj g z x = true → z ∈ x :: l := by
    intro d
    induction d with
    | zero =>
      intro x l hp hd
      have := len_sub hp.nd fun y hy => (mem_elts hS).2 (hp.on y hy)
      have h10 : (elts S).length ≤ 10 := by unfold elts; exact Nat.le_trans (List.length_filter_le _ _) (by simp)
      omega
    | succ d ih =>
      intro x l hp hd
      by_cases h : ∀ z, S.testBit z = true → adj g z x = true → z ∈ x :: l
      · exact ⟨x, l, hp, h⟩
      · simp only [Classical.not_forall] at h
        obtain ⟨z, hz, hzx, hzl⟩ := h
        refine ih z (x :: l) ⟨List.nodup_cons.2 ⟨hzl, hp.nd⟩, fun y hy => ?_, fun i a b ha hb => ?_⟩ (by simp only [List.length_cons] at hd ⊢; omega)
        · rcases List.mem_cons.1 hy with rfl | hy
          · exact hz
          · exact hp.on y hy
        · cases i with
          | zero =>
            simp at ha hb
            subst ha; subst hb; exact hzx
          | succ i =>
            rw [List.getElem?_cons_succ] at ha hb
            exact hp.ch i a b ha hb
  exact key 10 v [] h1 rfl

/-! ### Nodes with at most two neighbours -/
end Go.AM

end

section

/- Outer orders, as the program finds them. -/
namespace Go.AM
open Go.Proofs
variable {k : Nat} {R : Type}
attribute [local simp] nx_eq nx_new nx_set blk_new blk_set asI_int asK_int asB_bool asP_ptr al_eq bx_eq len_slice onE_exit onE_ret onR_ret Value.cells d3 d22 d23 cell_new cell_set rd_new rd_set off eq lt le ifB gv out
/-- A graph of at most eight nodes. -/
def valid8 (l : List Int) : Bool := validG l && decide (l.length ≤ 8)

theorem valid8_iff {l : List Int} (h : 1 ≤ l.length ∧ l.length ≤ 8) : valid8 l = true ↔ ∀ i x, l[i]? = some x → rowOk l i x = true := by
  unfold valid8
  rw [decide_eq_true h.2, Bool.and_true]
  exact validG_iff ⟨h.1, by omega⟩

set_option maxHeartbeats 1000000 in
/-- The document's test. -/
theorem s35_8 {v : Value} {l : List Int} {h : H} (hs : SlR h 3 1 v (cellsI l)) : rn 35 #[v, iv 8] h = some (.bool (valid8 l), h) := by
  have hlen := hs.lt62
  rw [List.length_map] at hlen
  have hn : ∀ {T : Type} (K : Int → Option T), len v K = K (l.length : Int) := fun K => by rw [hs.len]; simp
  by_cases hl : 1 ≤ l.length ∧ l.length ≤ 8
  · have hni : ∀ i : Nat, nn (i : Int) = fun (z : Option (Ex × List Value × H)) => z := fun i => by funext z; exact nn_ge (by omega) z
    have hb : ∀ a b : Int, AM.and .i64 (shr .i64 a b) 1 = bitI a b := fun _ _ => rfl
    have hle2 : ¬ (8 : Int) < (l.length : Int) := by omega
    have inner := fun (i : Nat) (x : Int) (_ : l[i]? = some x) => lp_all (F := f35_l2 rn 200010 v [.bool false, iv i] x l.length) (k := 200010) (l := l) (h := h) (fun j => [.bool false, iv j])
      (fun j y => decide (bitI x j = bitI y i)) (fun j => [.bool false, iv j]) 2 [.bool false, iv l.length] (ws := [.bool false, iv 0]) rfl (by omega)
      (by simp [f35_l2])
      (by
        intro j y hy
        have hj := (List.getElem?_eq_some_iff.1 hy).1
        have hadd : add .i64 (j : Int) 1 = (j : Int) + 1 := add64 (by omega) (by omega)
        have e1 := fun (K : Value → Option (Ex × List Value × H)) => getL hs hy K
        by_cases hq : bitI x j = bitI y i
        · simp [f35_l2, hj, hni, e1, hb, hq, hadd]
        · simp [f35_l2, hj, hni, e1, hb, hq])
    have hlp := lp_all (F := f35_l1 rn 200010 v 8 l.length) (k := 200010) (l := l) (h := h) (fun i => [.bool false, iv i])
      (fun i x => rowOk l i x) (fun i => [.bool false, iv i]) 0 [.bool false, iv l.length] (ws := [.bool false, iv 0]) rfl (by omega)
      (by simp [f35_l1])
      (by
        intro i x hx
        have hi := (List.getElem?_eq_some_iff.1 hx).1
        have hadd : add .i64 (i : Int) 1 = (i : Int) + 1 := add64 (by omega) (by omega)
        have e1 := fun (K : Value → Option (Ex × List Value × H)) => getL hs hx K
        have hall : rowOk l i x = (!decide (x < 0) && !decide (AM.shl .i64 1 (l.length : Int) ≤ x) && !decide (bitI x i = 1) && (List.range l.length).all fun j => decide (bitI x j = bitI (l.getD j 0) i)) := rfl
        by_cases h1 : x < 0
        · have : rowOk l i x = false := by rw [hall, decide_eq_true h1]; rfl
          simp [f35_l1, hi, e1, hn, hle2, h1, this]
        · by_cases h2 : AM.shl .i64 1 (l.length : Int) ≤ x
          · have : rowOk l i x = false := by rw [hall, decide_eq_true h2]; simp
            simp [f35_l1, hi, e1, hn, hle2, h1, hni, h2, this]
          · by_cases h3 : bitI x i = 1
            · have : rowOk l i x = false := by rw [hall, decide_eq_true h3]; simp
              simp [f35_l1, hi, e1, hn, hle2, h1, hni, h2, hb, h3, this]
            · rcases inner i x hx with ⟨j, y, hy, q2, _, q1⟩ | ⟨q2, q1⟩
              · have : rowOk l i x = false := by
                  have : ((List.range l.length).all fun j => decide (bitI x j = bitI (l.getD j 0) i)) = false := by
                    rw [List.all_eq_false]
                    refine ⟨j, List.mem_range.2 (List.getElem?_eq_some_iff.1 hy).1, ?_⟩
                    rw [show l.getD j 0 = y by simp [List.getD, hy], q2]; simp
                  rw [hall, this]; simp
                have hlq := fun (K : Ex → List Value → H → Option (Ex × List Value × H)) => lp_eq (K := K) q1
                simp [f35_l1, hi, e1, hn, hle2, h1, hni, h2, hb, h3, this, hlq]
              · have : rowOk l i x = true := by
                  have : ((List.range l.length).all fun j => decide (bitI x j = bitI (l.getD j 0) i)) = true := by
                    rw [List.all_eq_true]
                    intro j hj
                    have hj := List.mem_range.1 hj
                    have := q2 j _ (List.getElem?_eq_getElem hj)
                    simpa [List.getD, List.getElem?_eq_getElem hj] using this
                  rw [hall, this, decide_eq_false h1, decide_eq_false h2, decide_eq_false h3]; rfl
                have hlq := fun (K : Ex → List Value → H → Option (Ex × List Value × H)) => lp_eq (K := K) q1
                simp [f35_l1, hi, e1, hn, hle2, h1, hni, h2, hb, h3, this, hlq, hadd])
    rcases hlp with ⟨j, y, hy, q2, _, q1⟩ | ⟨q2, q1⟩
    · have hv : valid8 l = false := by
        rw [Bool.eq_false_iff]
        intro hc
        have := (valid8_iff hl).1 hc j y hy
        rw [this] at q2
        cases q2
      rw [hv]
      exact p35 (k := 200010) (by simp [f35, hn, lp_eq q1]) rfl (.refl _)
    · have hv : valid8 l = true := (valid8_iff hl).2 q2
      rw [hv]
      exact p35 (k := 200010) (by simp [f35, hn, lp_eq q1, show (1 : Int) ≤ (l.length : Int) by omega, show (l.length : Int) ≤ 8 by omega]) rfl (.refl _)
  · have hv : valid8 l = false := by
      unfold valid8 validG
      rw [Bool.eq_false_iff]
      intro hc
      simp only [Bool.and_eq_true, decide_eq_true_iff] at hc
      exact hl ⟨hc.1.1.1, hc.2⟩
    rw [hv]
    cases l with
    | nil =>
      have q1 : lpGo (f35_l1 rn 1 v 8 0) 1 [.bool false, iv 0] h = some (.exit 0, [.bool false, iv 0], h) := lpGo_exit (by simp [f35_l1])
      exact p35 (k := 1) (by simp [f35, hn, lp_eq q1]) rfl (.refl _)
    | cons x l =>
      have hle2 : (8 : Int) < ((x :: l).length : Int) := by simp at hl ⊢; omega
      have hpos : 0 < (x :: l).length := by simp
      have e1 := fun (K : Value → Option (Ex × List Value × H)) => getL hs (i := 0) (x := x) rfl K
      generalize x :: l = l' at *
      have e1' : ∀ (K : Value → Option (Ex × List Value × H)), (six v 0 1 fun b o => (h.cell b o).bind K) = K (iv x) := e1
      have q1 : lpGo (f35_l1 rn 1 v 8 l'.length) 1 [.bool false, iv 0] h = some (.ret, [.bool false, iv 0], h) := lpGo_ret (by simp [f35_l1, hpos, e1', hn, hle2])
      exact p35 (k := 1) (by simp [f35, hn, lp_eq q1]) rfl (.refl _)

theorem s14 {v : Value} {l : List Int} {h : H} (hs : SlR h 3 1 v (cellsI l)) : rn 14 #[v] h = some (.bool (valid8 l), h) := by
  refine p14 (k := 0) ?_ rfl (.refl _)
  unfold f14
  rw [calls_eq (xs := [v, iv 8]) (s35_8 hs), asB_bool]

theorem s46 {v : Value} {l : List Int} {h : H} (hs : SlR h 3 1 v (cellsI l)) : rn 46 #[v, iv 8] h = some (if valid8 l = true then .tuple #[v, .bool true] else .tuple #[.slice none 0 0, .bool false], h) := by
  have hn : ∀ {T : Type} (K : Int → Option T), len v K = K (l.length : Int) := fun K => by rw [hs.len]; simp
  by_cases hl : 1 ≤ l.length ∧ l.length ≤ 8
  · have hni : ∀ i : Nat, nn (i : Int) = fun (z : Option (Ex × List Value × H)) => z := fun i => by funext z; exact nn_ge (by omega) z
    have hb : ∀ a b : Int, AM.and .i64 (shr .i64 a b) 1 = bitI a b := fun _ _ => rfl
    have inner := fun (i : Nat) (x : Int) (_ : l[i]? = some x) => lp_all (F := f46_l2 rn 200010 v l.length [.slice none 0 0, .bool false, iv i] x) (k := 200010) (l := l) (h := h) (fun j => [.slice none 0 0, .bool false, iv j])
      (fun j y => decide (bitI x j = bitI y i)) (fun j => [.slice none 0 0, .bool false, iv j]) 2 [.slice none 0 0, .bool false, iv l.length] (ws := [.slice none 0 0, .bool false, iv 0]) rfl (by omega)
      (by simp [f46_l2])
      (by
        intro j y hy
        have hj := (List.getElem?_eq_some_iff.1 hy).1
        have hadd : add .i64 (j : Int) 1 = (j : Int) + 1 := add64 (by omega) (by omega)
        have e1 := fun (K : Value → Option (Ex × List Value × H)) => getL hs hy K
        by_cases hq : bitI x j = bitI y i
        · simp [f46_l2, hj, hni, e1, hb, hq, hadd]
        · simp [f46_l2, hj, hni, e1, hb, hq])
    have hlp := lp_all (F := f46_l1 rn 200010 v l.length l.length) (k := 200010) (l := l) (h := h) (fun i => [.slice none 0 0, .bool false, iv i])
      (fun i x => rowOk l i x) (fun i => [.slice none 0 0, .bool false, iv i]) 0 [.slice none 0 0, .bool false, iv l.length] (ws := [.slice none 0 0, .bool false, iv 0]) rfl (by omega)
      (by simp [f46_l1])
      (by
        intro i x hx
        have hi := (List.getElem?_eq_some_iff.1 hx).1
        have hadd : add .i64 (i : Int) 1 = (i : Int) + 1 := add64 (by omega) (by omega)
        have e1 := fun (K : Value → Option (Ex × List Value × H)) => getL hs hx K
        have hall : rowOk l i x = (!decide (x < 0) && !decide (AM.shl .i64 1 (l.length : Int) ≤ x) && !decide (bitI x i = 1) && (List.range l.length).all fun j => decide (bitI x j = bitI (l.getD j 0) i)) := rfl
        by_cases h1 : x < 0
        · have : rowOk l i x = false := by rw [hall, decide_eq_true h1]; rfl
          simp [f46_l1, hi, e1, h1, this]
        · by_cases h2 : AM.shl .i64 1 (l.length : Int) ≤ x
          · have : rowOk l i x = false := by rw [hall, decide_eq_true h2]; simp
            simp [f46_l1, hi, e1, h1, hni, h2, this]
          · by_cases h3 : bitI x i = 1
            · have : rowOk l i x = false := by rw [hall, decide_eq_true h3]; simp
              simp [f46_l1, hi, e1, h1, hni, h2, hb, h3, this]
            · rcases inner i x hx with ⟨j, y, hy, q2, _, q1⟩ | ⟨q2, q1⟩
              · have : rowOk l i x = false := by
                  have : ((List.range l.length).all fun j => decide (bitI x j = bitI (l.getD j 0) i)) = false := by
                    rw [List.all_eq_false]
                    refine ⟨j, List.mem_range.2 (List.getElem?_eq_some_iff.1 hy).1, ?_⟩
                    rw [show l.getD j 0 = y by simp [List.getD, hy], q2]; simp
                  rw [hall, this]; simp
                have hlq := fun (K : Ex → List Value → H → Option (Ex × List Value × H)) => lp_eq (K := K) q1
                simp [f46_l1, hi, e1, h1, hni, h2, hb, h3, this, hlq]
              · have : rowOk l i x = true := by
                  have : ((List.range l.length).all fun j => decide (bitI x j = bitI (l.getD j 0) i)) = true := by
                    rw [List.all_eq_true]
                    intro j hj
                    have hj := List.mem_range.1 hj
                    have := q2 j _ (List.getElem?_eq_getElem hj)
                    simpa [List.getD, List.getElem?_eq_getElem hj] using this
                  rw [hall, this, decide_eq_false h1, decide_eq_false h2, decide_eq_false h3]; rfl
                have hlq := fun (K : Ex → List Value → H → Option (Ex × List Value × H)) => lp_eq (K := K) q1
                simp [f46_l1, hi, e1, h1, hni, h2, hb, h3, this, hlq, hadd])
    have hle1 : ¬ (l.length : Int) < 1 := by omega
    have hle2 : ¬ (8 : Int) < (l.length : Int) := by omega
    rcases hlp with ⟨j, y, hy, q2, _, q1⟩ | ⟨q2, q1⟩
    · have hv : valid8 l = false := by
        rw [Bool.eq_false_iff]
        intro hc
        have := (valid8_iff hl).1 hc j y hy
        rw [this] at q2
        cases q2
      rw [hv]
      exact y46 (k := 200010) (by simp [f46, hn, hle1, hle2, lp_eq q1])
    · have hv : valid8 l = true := (valid8_iff hl).2 q2
      rw [hv, if_pos rfl]
      exact y46 (k := 200010) (by simp [f46, hn, hle1, hle2, lp_eq q1])
  · have hv : valid8 l = false := by
      unfold valid8 validG
      rw [Bool.eq_false_iff]
      intro hc
      simp only [Bool.and_eq_true, decide_eq_true_iff] at hc
      exact hl ⟨hc.1.1.1, hc.2⟩
    rw [hv]
    refine y46 (k := 0) ?_
    simp [f46, hn]
    omega

theorem s49 {S : Nat} (hS : S < 1024) (h : H) : ∃ v' h', rn 49 #[iv S] h = some (v', h') ∧ Exw h h' ∧ SlR h' 3 1 v' (cellsN (elts S)) ∧ ∀ q, AM.blkOf v' = some q → h.nx ≤ q := by
  obtain ⟨e, ws', h', hl, rfl, xg, v, w, hap, rfl⟩ := lpGo_inv (F := f49_l1 rn 2000)
    (fun d ws g => Ext h g ∧ ∃ (v : Value) (x : Nat) (L : List Nat), ws = [v, iv x] ∧ d = x ∧ x < 1024 ∧ L ++ elts x = elts S ∧ AqR h.nx g 3 1 v (cellsN L))
    (fun e ws g => e = .exit 0 ∧ Ext h g ∧ ∃ v w, AqR h.nx g 3 1 v (cellsN (elts S)) ∧ ws = [v, w])
    (by
      rintro d ws g ⟨xg, v, x, L, rfl, rfl, hx, hL, hap⟩
      by_cases hx0 : d = 0
      · subst hx0
        rw [elts_zero, List.append_nil] at hL
        subst hL
        exact ⟨.exit 0, [v, iv 0], _, by simp [f49_l1], .inr ⟨by simp, rfl, xg, v, iv 0, hap, rfl⟩⟩
      · have h0 : 0 < d := Nat.pos_of_ne_zero hx0
        obtain ⟨h1, h2⟩ := elts_next h0 hx
        have c89 := fun (K : Value → H → Option (Ex × List Value × H)) => calls_eq (K := K) (xs := [.int .u64 d]) (s79 h0 hx g)
        have hsub : sub .i64 (d : Int) 1 = ((d - 1 : Nat) : Int) := by rw [sub64 (by omega) (by omega)]; omega
        have hand : AM.and .i64 (d : Int) ((d - 1 : Nat) : Int) = ((d &&& (d - 1) : Nat) : Int) := and_nat (by omega) (by omega)
        have hLl : L.length ≤ 10 := by
          have h3 := congrArg List.length hL
          rw [List.length_append, elts_len S] at h3
          have := pop_le_n (Nat.le_refl 10) hS
          omega
        obtain ⟨v', g2, e2, a2, n2, k2, b2, hb2, hb2'⟩ := hap.push app22 app22 (bls22 (low d : Int)) rfl rfl (by simp; omega) xg.nx
        have ee : ∀ (K : Value → H → Option (Ex × List Value × H)), (bls Tryd.prog g 22 1 [(0, iv (low d : Nat))] fun y h2 => app Tryd.prog h2 22 22 v y K) = K v' g2 := fun K => e2 K
        refine ⟨.normal, [v', iv (d &&& (d - 1) : Nat)], g2, ?_, .inl ⟨rfl, d &&& (d - 1), h2, ⟨by have := xg.nx; omega, fun b hb => ?_⟩, v', d &&& (d - 1), L ++ [low d], rfl, rfl, by omega, ?_, ?_⟩⟩
        · unfold f49_l1
          rw [show AM.gv [v, iv d] 1 = iv d from rfl, show AM.gv [v, iv d] 0 = v from rfl, asI_int, show AM.eq (d : Int) 0 = false by simp; omega, show (!false) = true from rfl, ifB_true, asI_int, wr64u hx, c89, asI_int, ee, asI_int, asI_int, hsub, hand]
          rfl
        · rw [k2 b (by have := xg.nx; omega) (fun e => by have := (hap.blkOf e).1; omega)]
          exact xg.blk b hb
        · rw [← hL, h1]; simp
        · have : cellsN (L ++ [low d]) = cellsN L ++ [[iv (low d : Int)]] := by simp
          rw [this]; exact a2)
    S 2000 (by omega) ⟨.refl _, .slice none 0 0, S, [], rfl, rfl, hS, rfl, .nil⟩
  obtain ⟨h2, e2, m2, w2⟩ := x49 (k := 2000) (n0 := S) (h := h) (h1 := h') (v := v) (by
    unfold f49
    exact (lp_eq hl).trans rfl) (by obtain ⟨x, y, z, hz⟩ := hap.isSl; rw [hz]; rfl)
  exact ⟨v, h2, e2, w2 xg, hap.slR.ext m2.ext, fun q hq => (hap.blkOf hq).1⟩

theorem s57 {tv : Value} {g : List Nat} {h : H} (hg : GrB g) (hs : SlR h 3 1 tv (cellsN g)) : rn 57 #[tv] h = some (iv (allN g : Nat), h) := by
  have hlen := hg.len
  refine p57 (k := 0) (h1 := h) ?_ rfl (.refl _)
  unfold f57
  rw [hs.len, List.length_map, nn_ge (by omega), shl_all hlen]
  rfl

end Go.AM

end

section

/- The search for an outer order. -/
namespace Go.AM
open Go.Proofs
variable {k : Nat} {R : Type}
attribute [local simp] nx_eq nx_new nx_set blk_new blk_set asI_int asK_int asB_bool asP_ptr al_eq bx_eq len_slice onE_exit onE_ret onR_ret Value.cells d3 d22 d23 cell_new cell_set rd_new rd_set off eq lt le ifB gv out
theorem getD_of {L : List Nat} {j x : Nat} (h : L[j]? = some x) : L.getD j 0 = x := by rw [List.getD_eq_getElem?_getD, h]; rfl

theorem get_of {L : List Nat} {j : Nat} (h : j < L.length) : L[j]? = some (L.getD j 0) := by rw [List.getD_eq_getElem?_getD, List.getElem?_eq_getElem h]; rfl

/-! ### The search -/
section
variable {lo : Nat} {tv lv : Value} {g : List Nat} {lb tb gb : Nat} {l : List Nat} {h : H}
/-- Nothing old is turned but the cell of the slice, and its row. -/
structure FO (lb : Nat) (h : H) (lv : Value) (h' : H) (lv' : Value) : Prop where
  nx : h.nx ≤ h'.nx
  fr : ∀ b, b < h.nx → b ≠ lb → blkOf lv ≠ some b → h'.blk b = h.blk b
  wb : ∀ b, blkOf lv' = some b → h.nx ≤ b ∨ blkOf lv = some b

theorem FO.refl (lb : Nat) (h : H) (lv : Value) : FO lb h lv h lv := ⟨Nat.le_refl _, fun _ _ _ _ => rfl, fun _ h => .inr h⟩

theorem FO.trans {lb : Nat} {h h' h2 : H} {lv lv' lv2 : Value} (a : FO lb h lv h' lv') (b : FO lb h' lv' h2 lv2) : FO lb h lv h2 lv2 := by
  have n1 := a.nx
  refine ⟨Nat.le_trans a.nx b.nx, fun i hi h1 h3 => ?_, fun i hi => ?_⟩
  · rw [b.fr i (by omega) h1 (fun e => ?_), a.fr i hi h1 h3]
    rcases a.wb i e with h | h
    · omega
    · exact h3 h
  · rcases b.wb i hi with h | h
    · exact .inl (by omega)
    · exact a.wb i h

end
end Go.AM

end

section

/- PLAIN: a connected graph of at least four nodes without cut nodes, and without pairs that part it, has K(4) as a minor. -/
namespace Go.AM
open Go.Proofs
/-- Each one and the next one are neighbours. -/
def Lnk (g : List Nat) : List Nat → Prop
  | [] => True
  | [_] => True
  | x :: y :: l => adj g x y = true ∧ Lnk g (y :: l)

theorem lnk_of {g : List Nat} : ∀ {l : List Nat}, (∀ i x y, l[i]? = some x → l[i + 1]? = some y → adj g x y = true) → Lnk g l
  | [], _ => trivial
  | [_], _ => trivial
  | x :: y :: l, h => ⟨h 0 x y rfl rfl, lnk_of fun i a b ha hb => h (i + 1) a b (by simpa using ha) (by simpa using hb)⟩

theorem lnk_app {g : List Nat} : ∀ {l m : List Nat}, Lnk g (l ++ m) → Lnk g l ∧ Lnk g m ∧ ∀ x y, l.getLast? = some x → m.head? = some y → adj g x y = true
  | [], m, h => ⟨trivial, h, fun x y hx => by simp at hx⟩
  | [a], [], _ => ⟨trivial, trivial, fun x y _ hy => by simp at hy⟩
  | [a], b :: m, h => ⟨trivial, h.2, fun x y hx hy => by
      simp at hx hy
      subst hx; subst hy; exact h.1⟩
  | a :: b :: l, m, h => by
    obtain ⟨h1, h2, h3⟩ := lnk_app (l := b :: l) (m := m) h.2
    exact ⟨⟨h.1, h1⟩, h2, fun x y hx hy => h3 x y (by rw [List.getLast?_cons_cons] at hx; exact hx) hy⟩

theorem app_lnk {g : List Nat} : ∀ {l m : List Nat}, Lnk g l → Lnk g m → (∀ x y, l.getLast? = some x → m.head? = some y → adj g x y = true) → Lnk g (l ++ m)
  | [], _, _, h, _ => h
  | [_], [], _, _, _ => trivial
  | [a], b :: _, _, h, hl => ⟨hl a b rfl rfl, h⟩
  | a :: b :: l, m, h1, h2, h3 => ⟨h1.1, app_lnk (l := b :: l) h1.2 h2 fun x y hx hy => h3 x y (by rw [List.getLast?_cons_cons]; exact hx) hy⟩

theorem lnk_conn {g : List Nat} (hs : ∀ a b, adj g a b = adj g b a) : ∀ {l : List Nat}, Lnk g l → Conn g (setOf l) := by
  have key : ∀ {l : List Nat} {x : Nat}, Lnk g (x :: l) → ∀ y ∈ x :: l, Rch g (setOf (x :: l)) x y := by
    intro l
    induction l with
    | nil =>
      intro x _ y hy
      rw [List.mem_singleton.1 hy]; exact .base
    | cons z l ih =>
      intro x h y hy
      rcases List.mem_cons.1 hy with rfl | hy
      · exact .base
      · have := ih h.2 y hy
        have up : ∀ i, (setOf (z :: l)).testBit i = true → (setOf (x :: z :: l)).testBit i = true := fun i hi => setOf_bit.2 (List.mem_cons_of_mem _ (setOf_bit.1 hi))
        exact (Rch.one h.1 (up z (setOf_bit.2 List.mem_cons_self))).trans (this.mono up)
  intro l h
  cases l with
  | nil => intro a b ha; rw [setOf_bit] at ha; simp at ha
  | cons x l =>
    intro a b ha hb
    have hx : (setOf (x :: l)).testBit x = true := setOf_bit.2 List.mem_cons_self
    exact ((key h a (setOf_bit.1 ha)).sym hs hx).trans (key h b (setOf_bit.1 hb))

theorem gl_app {l m : List Nat} (hm : m ≠ []) : (l ++ m).getLast? = m.getLast? := by
  rw [List.getLast?_append]
  cases h : m.getLast? with
  | none => rw [List.getLast?_eq_none_iff] at h; exact absurd h hm
  | some x => rfl

theorem hd_app {l m : List Nat} (hl : l ≠ []) : (l ++ m).head? = l.head? := by
  cases l with
  | nil => exact absurd rfl hl
  | cons x l => rfl

theorem ex_last (x : Nat) (l : List Nat) : ∃ u, (x :: l).getLast? = some u := by
  cases h : (x :: l).getLast? with
  | none => rw [List.getLast?_eq_none_iff] at h; cases h
  | some u => exact ⟨u, rfl⟩

/-- A cycle, from one of its nodes on. -/
structure CycL (g : List Nat) (S : Nat) (l : List Nat) : Prop where
  nd : l.Nodup
  on : ∀ x ∈ l, S.testBit x = true
  ch : Lnk g l
  cl : ∀ x y, l.getLast? = some x → l.head? = some y → adj g x y = true

theorem CycL.rot {g : List Nat} {S : Nat} {l m : List Nat} (hl : l ≠ []) (hm : m ≠ []) (h : CycL g S (l ++ m)) : CycL g S (m ++ l) := by
  obtain ⟨h1, h2, h3⟩ := lnk_app h.ch
  have c := h.cl
  refine ⟨(List.perm_append_comm (l₁ := l) (l₂ := m)).nodup_iff.1 h.nd, fun x hx => h.on x ((List.perm_append_comm (l₁ := l) (l₂ := m)).mem_iff.2 hx), app_lnk h2 h1 fun x y hx hy => c x y ?_ ?_, fun x y hx hy => h3 x y ?_ ?_⟩
  · rw [gl_app hm]; exact hx
  · rw [hd_app hl]; exact hy
  · rw [gl_app hl] at hx; exact hx
  · rw [hd_app hm] at hy; exact hy

theorem two_of {l : List Nat} (hn : l.Nodup) {p : Nat → Bool} (h : 2 ≤ l.countP p) : ∃ y ∈ l, ∃ z ∈ l, y ≠ z ∧ p y = true ∧ p z = true := by
  rw [List.countP_eq_length_filter] at h
  match hf : l.filter p, h with
  | y :: z :: t, _ =>
    have hn' : (l.filter p).Nodup := hn.filter _
    have my : y ∈ l.filter p := by rw [hf]; simp
    have mz : z ∈ l.filter p := by rw [hf]; simp
    rw [hf, List.nodup_cons] at hn'
    rw [List.mem_filter] at my mz
    exact ⟨y, my.1, z, mz.1, fun e => hn'.1 (e ▸ List.mem_cons_self), my.2, mz.2⟩

theorem cyc_of {g : List Nat} (hg : GrN g) {S : Nat} (hS : S < 2 ^ g.length) (hp : 2 < pop S) (hb : Bi g S) : ∃ l, CycL g S l ∧ 3 ≤ l.length := by
  have hS' : S < 1024 := Nat.lt_of_lt_of_le hS hg.pow
  obtain ⟨v, hv⟩ : ∃ v, S.testBit v = true := by
    refine Classical.byContradiction fun hc => ?_
    have : S = 0 := Nat.eq_of_testBit_eq fun i => by
      rw [Nat.zero_testBit, Bool.eq_false_iff]
      exact fun h => hc ⟨i, h⟩
    subst this
    have : pop 0 = 0 := by decide
    omega
  obtain ⟨x, l, hP, hmax⟩ := path_max (g := g) hS' hv
  have hxS := hP.on x List.mem_cons_self
  generalize hLd : x :: l = L at hP hmax
  have hL0 : L[0]? = some x := by rw [← hLd]; rfl
  have nn := hP.nd
  have far : ∃ j y, 2 ≤ j ∧ L[j]? = some y ∧ adj g x y = true := by
    obtain ⟨y, hy, z, hz, hyz, ay, az⟩ := two_of (elts_nodup S) (deg_two hS' hp hb hg.irr hxS)
    rw [mem_elts hS'] at hy hz
    obtain ⟨j, hj⟩ := List.mem_iff_getElem?.1 (hmax y hy (by rw [hg.sym]; exact ay))
    obtain ⟨k, hk⟩ := List.mem_iff_getElem?.1 (hmax z hz (by rw [hg.sym]; exact az))
    have hj0 : j ≠ 0 := by
      rintro rfl
      rw [hL0] at hj
      have := Option.some.inj hj
      subst this
      rw [hg.irr] at ay; cases ay
    have hk0 : k ≠ 0 := by
      rintro rfl
      rw [hL0] at hk
      have := Option.some.inj hk
      subst this
      rw [hg.irr] at az; cases az
    have hjk : j ≠ k := by
      rintro rfl
      rw [hj] at hk
      exact hyz (Option.some.inj hk)
    by_cases h : 2 ≤ j
    · exact ⟨j, y, h, hj, ay⟩
    · exact ⟨k, z, by omega, hk, az⟩
  obtain ⟨j, y, hj2, hj, hxy⟩ := far
  have hjl := (List.getElem?_eq_some_iff.1 hj).1
  have hlen : (L.take (j + 1)).length = j + 1 := by rw [List.length_take]; omega
  have hget : ∀ i, i < j + 1 → (L.take (j + 1))[i]? = L[i]? := fun i hi => by rw [List.getElem?_take, if_pos hi]
  refine ⟨L.take (j + 1), ⟨nn.sublist (List.take_sublist _ _), fun u hu => hP.on u (List.mem_of_mem_take hu), lnk_of fun i a b ha hb => ?_, fun a b ha hb => ?_⟩, by omega⟩
  · have hi := (List.getElem?_eq_some_iff.1 hb).1
    rw [hget _ (by omega)] at ha hb
    exact hP.ch i a b ha hb
  · rw [List.getLast?_eq_getElem?, hlen, hget _ (by omega), show j + 1 - 1 = j by omega, hj] at ha
    rw [List.head?_eq_getElem?, hget _ (by omega), hL0] at hb
    cases ha; cases hb
    rw [hg.sym]; exact hxy

theorem other2 {l : List Nat} (hn : l.Nodup) (h : 3 ≤ l.length) (x y : Nat) : ∃ z ∈ l, z ≠ x ∧ z ≠ y := by
  refine Classical.byContradiction fun hc => ?_
  have := len_sub (l := l) (m := [x, y]) hn fun z hz => by
    refine Classical.byContradiction fun h1 => hc ⟨z, hz, fun e => h1 (by simp [e]), fun e => h1 (by simp [e])⟩
  simp at this
  omega

/-- Two sets between which there is an edge. -/
def Tch (g : List Nat) (A B : Nat) : Prop := ∃ x y, A.testBit x = true ∧ B.testBit y = true ∧ adj g x y = true

theorem k4_sets {g : List Nat} (hg : GrN g) (h4 : 4 ≤ g.length) (hb : Bi g (allN g)) (hp : ∀ a b, a ≠ b → Conn g (del2 (allN g) a b)) :
    ∃ A B C D : Nat, A < 2 ^ g.length ∧ B < 2 ^ g.length ∧ C < 2 ^ g.length ∧ D < 2 ^ g.length ∧ A ≠ 0 ∧ B ≠ 0 ∧ C ≠ 0 ∧ D ≠ 0 ∧ Conn g A ∧ Conn g B ∧ Conn g C ∧ Conn g D ∧
      A &&& B = 0 ∧ A &&& C = 0 ∧ A &&& D = 0 ∧ B &&& C = 0 ∧ B &&& D = 0 ∧ C &&& D = 0 ∧ Tch g A B ∧ Tch g A C ∧ Tch g A D ∧ Tch g B C ∧ Tch g B D ∧ Tch g C D := by
  have hlen := hg.len
  have hpow := hg.pow
  have hall : ∀ i, (allN g).testBit i = true ↔ i < g.length := fun i => by rw [allN_bit, decide_eq_true_iff]
  -- the others than node 0 are without cut nodes
  have hH : without (allN g) (2 ^ 0) < 2 ^ g.length := without_lt (allN_lt g)
  have hHb : Bi g (without (allN g) (2 ^ 0)) := by
    intro w
    by_cases hw : w = 0
    · subst hw
      rw [del_none]
      · exact hb 0
      · rw [Bool.eq_false_iff]; intro h; exact (bit_del.1 h).2 rfl
    · exact hp 0 w (Ne.symm hw)
  have hHp : 2 < pop (without (allN g) (2 ^ 0)) := by
    rw [← elts_len]
    have := len_sub (l := [1, 2, 3]) (m := elts (without (allN g) (2 ^ 0))) (by decide) fun x hx => by
      rw [mem_elts (by omega), bit_del, hall]
      simp only [List.mem_cons, List.not_mem_nil, or_false] at hx
      omega
    simp only [List.length_cons, List.length_nil] at this
    omega
  obtain ⟨l, hC, hl3⟩ := cyc_of hg hH hHp hHb
  have hW : without (allN g) (setOf l) < 1024 := without_lt (n := 10) (by have := allN_lt g; omega)
  have bW : ∀ i, (without (allN g) (setOf l)).testBit i = true ↔ i < g.length ∧ i ∉ l := by
    intro i; rw [testBit_without, Bool.and_eq_true, Bool.not_eq_true', ← Bool.not_eq_true, setOf_bit, hall]
  have h0l : 0 ∉ l := fun h => (bit_del.1 (hC.on 0 h)).2 rfl
  have hll : ∀ x ∈ l, x < g.length := fun x hx => (hall x).1 (bit_del.1 (hC.on x hx)).1
  have h0W : (without (allN g) (setOf l)).testBit 0 = true := (bW 0).2 ⟨by omega, h0l⟩
  let K := rch g (without (allN g) (setOf l)) 0
  have hK : ∀ i, K.testBit i = true ↔ Rch g (without (allN g) (setOf l)) 0 i := fun i => rch_bit (by omega) hW
  have hKW : ∀ i, K.testBit i = true → i < g.length ∧ i ∉ l := fun i hi => (bW i).1 (((hK i).1 hi).mem h0W)
  have hKlt : K < 2 ^ g.length := sub_ltS (allN_lt g) fun i hi => (hall i).2 (hKW i hi).1
  -- which nodes of the cycle have a neighbour in K
  classical
  let att : Nat → Bool := fun c => decide (∃ u, K.testBit u = true ∧ adj g u c = true)
  have hatt : ∀ c, att c = true ↔ ∃ u, K.testBit u = true ∧ adj g u c = true := fun c => decide_eq_true_iff
  have h3 : 3 ≤ (l.filter att).length := by
    refine Classical.byContradiction fun hlt => ?_
    obtain ⟨x, y, hxy, hT, z, hz, hzx, hzy⟩ : ∃ x y, x ≠ y ∧ (∀ c ∈ l, att c = true → c = x ∨ c = y) ∧ ∃ z ∈ l, z ≠ x ∧ z ≠ y := by
      match hf : l.filter att with
      | [] =>
        obtain ⟨x, hx, _⟩ := other2 hC.nd hl3 0 0
        obtain ⟨y, hy, hyx, _⟩ := other2 hC.nd hl3 x x
        refine ⟨x, y, Ne.symm hyx, fun c hc ha => ?_, other2 hC.nd hl3 x y⟩
        have : c ∈ l.filter att := List.mem_filter.2 ⟨hc, ha⟩
        rw [hf] at this; simp at this
      | [t] =>
        obtain ⟨y, hy, hyx, _⟩ := other2 hC.nd hl3 t t
        refine ⟨t, y, Ne.symm hyx, fun c hc ha => ?_, other2 hC.nd hl3 t y⟩
        have : c ∈ l.filter att := List.mem_filter.2 ⟨hc, ha⟩
        rw [hf] at this
        exact .inl (by simpa using this)
      | [s, t] =>
        have hn : (l.filter att).Nodup := hC.nd.filter _
        rw [hf] at hn
        refine ⟨s, t, by simpa using hn, fun c hc ha => ?_, other2 hC.nd hl3 s t⟩
        have : c ∈ l.filter att := List.mem_filter.2 ⟨hc, ha⟩
        rw [hf] at this
        simpa using this
      | _ :: _ :: _ :: _ => rw [hf] at hlt; simp at hlt
    have xy0 : (x = 0 ∨ y = 0) ∨ (x ≠ 0 ∧ y ≠ 0) := by omega
    -- neither is node 0, or take others
    have main : ∀ x y, x ≠ y → x ≠ 0 → y ≠ 0 → (∀ c ∈ l, att c = true → c = x ∨ c = y) → (∃ z ∈ l, z ≠ x ∧ z ≠ y) → False := by
      rintro x y hxy hx0 hy0 hT ⟨z, hz, hzx, hzy⟩
      have bD : ∀ i, (del2 (allN g) x y).testBit i = true ↔ (i < g.length ∧ i ≠ x) ∧ i ≠ y := fun i => by unfold del2; rw [bit_del, bit_del, hall]
      have hr := hp x y hxy 0 z ((bD 0).2 ⟨⟨by omega, Ne.symm hx0⟩, Ne.symm hy0⟩) ((bD z).2 ⟨⟨hll z hz, hzx⟩, hzy⟩)
      have key : ∀ {u}, Rch g (del2 (allN g) x y) 0 u → K.testBit u = true := by
        intro u hu
        induction hu with
        | base => exact (hK 0).2 .base
        | @step a b _ hab hbD ih =>
          have hbD := (bD b).1 hbD
          by_cases hbl : b ∈ l
          · rcases hT b hbl ((hatt b).2 ⟨a, ih, hab⟩) with e | e
            · exact absurd e hbD.1.2
            · exact absurd e hbD.2
          · exact (hK b).2 (.step ((hK a).1 ih) hab ((bW b).2 ⟨hbD.1.1, hbl⟩))
      exact (hKW z (key hr)).2 hz
    -- x and y may be chosen on the cycle
    have onl : ∀ x, (∀ c ∈ l, att c = true → c = x ∨ c = y) → True := fun _ _ => trivial
    obtain ⟨p, hpl, _⟩ := other2 hC.nd hl3 0 0
    by_cases hx0 : x = 0
    · subst hx0
      by_cases hy0 : y = 0
      · exact hxy hy0.symm
      · obtain ⟨q, hq, hqy, _⟩ := other2 hC.nd hl3 y y
        have hq0 : q ≠ 0 := fun e => h0l (e ▸ hq)
        refine main q y hqy hq0 hy0 (fun c hc ha => ?_) (other2 hC.nd hl3 q y)
        rcases hT c hc ha with e | e
        · exact absurd (e ▸ hc) h0l
        · exact .inr e
    · by_cases hy0 : y = 0
      · subst hy0
        obtain ⟨q, hq, hqx, _⟩ := other2 hC.nd hl3 x x
        have hq0 : q ≠ 0 := fun e => h0l (e ▸ hq)
        refine main x q (Ne.symm hqx) hx0 hq0 (fun c hc ha => ?_) (other2 hC.nd hl3 x q)
        rcases hT c hc ha with e | e
        · exact .inl e
        · exact absurd (e ▸ hc) h0l
      · exact main x y hxy hx0 hy0 hT ⟨z, hz, hzx, hzy⟩
  obtain ⟨a, b, c, hsub⟩ : ∃ a b c, [a, b, c].Sublist (l.filter att) := by
    match hf : l.filter att, h3 with
    | a :: b :: c :: t, _ => exact ⟨a, b, c, by simp⟩
  have ha : att a = true := (List.mem_filter.1 (hsub.subset (by simp))).2
  have hb' : att b = true := (List.mem_filter.1 (hsub.subset (by simp))).2
  have hc : att c = true := (List.mem_filter.1 (hsub.subset (by simp))).2
  have hsl : [a, b, c].Sublist l := hsub.trans List.filter_sublist
  -- the cycle in four pieces
  obtain ⟨α0, α, β, γ, rfl⟩ : ∃ α0 α β γ, l = α0 ++ (a :: α) ++ ((b :: β) ++ (c :: γ)) := by
    have cut : ∀ {x : Nat} {t l : List Nat}, (x :: t).Sublist l → ∃ l1 l2, l = l1 ++ x :: l2 ∧ t.Sublist l2 := by
      intro x t l
      induction l with
      | nil => intro h; cases h
      | cons y l ih =>
        intro h
        cases h with
        | cons _ h =>
          obtain ⟨l1, l2, e, h⟩ := ih h
          exact ⟨y :: l1, l2, by rw [e]; rfl, h⟩
        | cons_cons _ h => exact ⟨[], l, rfl, h⟩
    obtain ⟨l1, l2, e1, s1⟩ := cut hsl
    obtain ⟨l3, l4, e2, s2⟩ := cut s1
    obtain ⟨l5, l6, e3, _⟩ := cut s2
    exact ⟨l1, l3, l5, l6, by rw [e1, e2, e3]; simp⟩
  -- from a on
  have hC' : CycL g (without (allN g) (2 ^ 0)) ((a :: α) ++ ((b :: β) ++ ((c :: γ) ++ α0))) := by
    cases α0 with
    | nil => simpa using hC
    | cons z α0 =>
      have := CycL.rot (l := z :: α0) (m := (a :: α) ++ ((b :: β) ++ (c :: γ))) (by simp) (by simp) (by simpa using hC)
      simpa using this
  have hmem : ∀ i, i ∈ (a :: α) ++ ((b :: β) ++ ((c :: γ) ++ α0)) ↔ i ∈ α0 ++ (a :: α) ++ ((b :: β) ++ (c :: γ)) := by
    intro i
    simp only [List.mem_append]
    constructor
    · rintro (h | h | h | h) <;> simp [h]
    · rintro ((h | h) | h | h) <;> simp [h]
  rw [show (c :: γ) ++ α0 = c :: (γ ++ α0) from rfl] at hC' hmem
  generalize γ ++ α0 = δ at hC' hmem
  obtain ⟨n1, n2, n3⟩ := lnk_app hC'.ch
  obtain ⟨n4, n5, n6⟩ := lnk_app n2
  have nd := hC'.nd
  rw [List.nodup_append] at nd
  obtain ⟨d1, d2, d3⟩ := nd
  rw [List.nodup_append] at d2
  obtain ⟨d4, d5, d6⟩ := d2
  have inl : ∀ x, x ∈ (a :: α) ++ ((b :: β) ++ (c :: δ)) → x < g.length ∧ K.testBit x = false := by
    intro x hx
    have hxl := (hmem x).1 hx
    refine ⟨hll x hxl, ?_⟩
    rw [Bool.eq_false_iff]
    exact fun h => (hKW x h).2 hxl
  have sl : ∀ L : List Nat, (∀ x ∈ L, x ∈ (a :: α) ++ ((b :: β) ++ (c :: δ))) → setOf L < 2 ^ g.length ∧ K &&& setOf L = 0 := by
    intro L hL
    refine ⟨setOf_lt fun i hi => (inl i (hL i hi)).1, Nat.eq_of_testBit_eq fun i => ?_⟩
    rw [Nat.testBit_and, Nat.zero_testBit, Bool.eq_false_iff]
    intro h
    rw [Bool.and_eq_true, setOf_bit] at h
    have := (inl i (hL i h.2)).2
    rw [h.1] at this; cases this
  have ne0 : ∀ (x : Nat) (L : List Nat), setOf (x :: L) ≠ 0 := by
    intro x L h
    have : (setOf (x :: L)).testBit x = true := setOf_bit.2 List.mem_cons_self
    rw [h] at this; simp at this
  have dis : ∀ L M : List Nat, (∀ x ∈ L, ∀ y ∈ M, x ≠ y) → setOf L &&& setOf M = 0 := by
    intro L M h
    refine Nat.eq_of_testBit_eq fun i => ?_
    rw [Nat.testBit_and, Nat.zero_testBit, Bool.eq_false_iff]
    intro hc
    rw [Bool.and_eq_true, setOf_bit, setOf_bit] at hc
    exact h i hc.1 i hc.2 rfl
  have tK : ∀ (x : Nat) (L : List Nat), att x = true → Tch g K (setOf (x :: L)) := by
    intro x L hx
    obtain ⟨u, hu, hux⟩ := (hatt x).1 hx
    exact ⟨u, x, hu, setOf_bit.2 List.mem_cons_self, hux⟩
  have tL : ∀ (x y : Nat) (L M : List Nat), (∀ u w, (x :: L).getLast? = some u → (y :: M).head? = some w → adj g u w = true) → Tch g (setOf (x :: L)) (setOf (y :: M)) := by
    intro x y L M h
    obtain ⟨u, hu⟩ : ∃ u, (x :: L).getLast? = some u := ex_last _ _
    exact ⟨u, y, setOf_bit.2 (List.mem_of_getLast? hu), setOf_bit.2 List.mem_cons_self, h u y hu rfl⟩
  obtain ⟨l1, k1⟩ := sl (a :: α) fun x hx => List.mem_append.2 (.inl hx)
  obtain ⟨l2, k2⟩ := sl (b :: β) fun x hx => List.mem_append.2 (.inr (List.mem_append.2 (.inl hx)))
  obtain ⟨l3, k3⟩ := sl (c :: δ) fun x hx => List.mem_append.2 (.inr (List.mem_append.2 (.inr hx)))
  refine ⟨K, setOf (a :: α), setOf (b :: β), setOf (c :: δ), hKlt, l1, l2, l3, fun h => ?_, ne0 _ _, ne0 _ _, ne0 _ _, fun x y hx hy => ?_, lnk_conn hg.sym n1, lnk_conn hg.sym n4, lnk_conn hg.sym n5, k1, k2, k3,
    dis _ _ fun x hx y hy => d3 x hx y (List.mem_append.2 (.inl hy)), dis _ _ fun x hx y hy => d3 x hx y (List.mem_append.2 (.inr hy)), dis _ _ d6, tK a α ha, tK b β hb', tK c δ hc, tL a b α β fun u w hu hw => n3 u w hu (by simpa using hw), ?_, tL b c β δ n6⟩
  · have : K.testBit 0 = true := (hK 0).2 .base
    rw [h] at this; simp at this
  · have hx' := (hK x).1 hx
    have hy' := (hK y).1 hy
    have up : ∀ {u}, Rch g (without (allN g) (setOf (α0 ++ (a :: α) ++ ((b :: β) ++ (c :: γ))))) 0 u → Rch g K 0 u := by
      intro u hu
      induction hu with
      | base => exact .base
      | step h1 h2 h3 ih => exact .step ih h2 ((hK _).2 (.step h1 h2 h3))
    exact ((up hx').sym hg.sym ((hK 0).2 .base)).trans (up hy')
  · -- the last one and a
    have h1 := hC'.cl
    obtain ⟨u, hu⟩ : ∃ u, (c :: δ).getLast? = some u := ex_last _ _
    refine ⟨a, u, setOf_bit.2 List.mem_cons_self, setOf_bit.2 (List.mem_of_getLast? hu), ?_⟩
    rw [hg.sym]
    refine h1 u a ?_ rfl
    rw [gl_app (by simp), gl_app (by simp)]
    exact hu

end Go.AM

end

section

/- Sets of nodes, edges that are laid, patterns. -/
namespace Go.AM
open Go.Proofs
variable {k : Nat} {R : Type}
attribute [local simp] nx_eq nx_new nx_set blk_new blk_set asI_int asK_int asB_bool asP_ptr al_eq bx_eq len_slice onE_exit onE_ret onR_ret Value.cells d3 d22 d23 cell_new cell_set rd_new rd_set off eq lt le ifB gv out
/-- A pattern. -/
def valid6 (l : List Int) : Bool := validG l && decide (l.length ≤ 6)

theorem valid6_iff {l : List Int} (h : 1 ≤ l.length ∧ l.length ≤ 6) : valid6 l = true ↔ ∀ i x, l[i]? = some x → rowOk l i x = true := by
  unfold valid6
  rw [decide_eq_true h.2, Bool.and_true]
  exact validG_iff ⟨h.1, by omega⟩

theorem s46_6 {v : Value} {l : List Int} {h : H} (hs : SlR h 3 1 v (cellsI l)) : rn 46 #[v, iv 6] h = some (if valid6 l = true then .tuple #[v, .bool true] else .tuple #[.slice none 0 0, .bool false], h) := by
  have hn : ∀ {T : Type} (K : Int → Option T), len v K = K (l.length : Int) := fun K => by rw [hs.len]; simp
  by_cases hl : 1 ≤ l.length ∧ l.length ≤ 6
  · have hni : ∀ i : Nat, nn (i : Int) = fun (z : Option (Ex × List Value × H)) => z := fun i => by funext z; exact nn_ge (by omega) z
    have hb : ∀ a b : Int, AM.and .i64 (shr .i64 a b) 1 = bitI a b := fun _ _ => rfl
    have inner := fun (i : Nat) (x : Int) (_ : l[i]? = some x) => lp_all (F := f46_l2 rn 200010 v l.length [.slice none 0 0, .bool false, iv i] x) (k := 200010) (l := l) (h := h) (fun j => [.slice none 0 0, .bool false, iv j])
      (fun j y => decide (bitI x j = bitI y i)) (fun j => [.slice none 0 0, .bool false, iv j]) 2 [.slice none 0 0, .bool false, iv l.length] (ws := [.slice none 0 0, .bool false, iv 0]) rfl (by omega)
      (by simp [f46_l2])
      (by
        intro j y hy
        have hj := (List.getElem?_eq_some_iff.1 hy).1
        have hadd : add .i64 (j : Int) 1 = (j : Int) + 1 := add64 (by omega) (by omega)
        have e1 := fun (K : Value → Option (Ex × List Value × H)) => getL hs hy K
        by_cases hq : bitI x j = bitI y i
        · simp [f46_l2, hj, hni, e1, hb, hq, hadd]
        · simp [f46_l2, hj, hni, e1, hb, hq])
    have hlp := lp_all (F := f46_l1 rn 200010 v l.length l.length) (k := 200010) (l := l) (h := h) (fun i => [.slice none 0 0, .bool false, iv i])
      (fun i x => rowOk l i x) (fun i => [.slice none 0 0, .bool false, iv i]) 0 [.slice none 0 0, .bool false, iv l.length] (ws := [.slice none 0 0, .bool false, iv 0]) rfl (by omega)
      (by simp [f46_l1])
      (by
        intro i x hx
        have hi := (List.getElem?_eq_some_iff.1 hx).1
        have hadd : add .i64 (i : Int) 1 = (i : Int) + 1 := add64 (by omega) (by omega)
        have e1 := fun (K : Value → Option (Ex × List Value × H)) => getL hs hx K
        have hall : rowOk l i x = (!decide (x < 0) && !decide (AM.shl .i64 1 (l.length : Int) ≤ x) && !decide (bitI x i = 1) && (List.range l.length).all fun j => decide (bitI x j = bitI (l.getD j 0) i)) := rfl
        by_cases h1 : x < 0
        · have : rowOk l i x = false := by rw [hall, decide_eq_true h1]; rfl
          simp [f46_l1, hi, e1, h1, this]
        · by_cases h2 : AM.shl .i64 1 (l.length : Int) ≤ x
          · have : rowOk l i x = false := by rw [hall, decide_eq_true h2]; simp
            simp [f46_l1, hi, e1, h1, hni, h2, this]
          · by_cases h3 : bitI x i = 1
            · have : rowOk l i x = false := by rw [hall, decide_eq_true h3]; simp
              simp [f46_l1, hi, e1, h1, hni, h2, hb, h3, this]
            · rcases inner i x hx with ⟨j, y, hy, q2, _, q1⟩ | ⟨q2, q1⟩
              · have : rowOk l i x = false := by
                  have : ((List.range l.length).all fun j => decide (bitI x j = bitI (l.getD j 0) i)) = false := by
                    rw [List.all_eq_false]
                    refine ⟨j, List.mem_range.2 (List.getElem?_eq_some_iff.1 hy).1, ?_⟩
                    rw [show l.getD j 0 = y by simp [List.getD, hy], q2]; simp
                  rw [hall, this]; simp
                have hlq := fun (K : Ex → List Value → H → Option (Ex × List Value × H)) => lp_eq (K := K) q1
                simp [f46_l1, hi, e1, h1, hni, h2, hb, h3, this, hlq]
              · have : rowOk l i x = true := by
                  have : ((List.range l.length).all fun j => decide (bitI x j = bitI (l.getD j 0) i)) = true := by
                    rw [List.all_eq_true]
                    intro j hj
                    have hj := List.mem_range.1 hj
                    have := q2 j _ (List.getElem?_eq_getElem hj)
                    simpa [List.getD, List.getElem?_eq_getElem hj] using this
                  rw [hall, this, decide_eq_false h1, decide_eq_false h2, decide_eq_false h3]; rfl
                have hlq := fun (K : Ex → List Value → H → Option (Ex × List Value × H)) => lp_eq (K := K) q1
                simp [f46_l1, hi, e1, h1, hni, h2, hb, h3, this, hlq, hadd])
    have hle1 : ¬ (l.length : Int) < 1 := by omega
    have hle2 : ¬ (6 : Int) < (l.length : Int) := by omega
    rcases hlp with ⟨j, y, hy, q2, _, q1⟩ | ⟨q2, q1⟩
    · have hv : valid6 l = false := by
        rw [Bool.eq_false_iff]
        intro hc
        have := (valid6_iff hl).1 hc j y hy
        rw [this] at q2
        cases q2
      rw [hv]
      exact y46 (k := 200010) (by simp [f46, hn, hle1, hle2, lp_eq q1])
    · have hv : valid6 l = true := (valid6_iff hl).2 q2
      rw [hv, if_pos rfl]
      exact y46 (k := 200010) (by simp [f46, hn, hle1, hle2, lp_eq q1])
  · have hv : valid6 l = false := by
      unfold valid6 validG
      rw [Bool.eq_false_iff]
      intro hc
      simp only [Bool.and_eq_true, decide_eq_true_iff] at hc
      exact hl ⟨hc.1.1.1, hc.2⟩
    rw [hv]
    refine y46 (k := 0) ?_
    simp [f46, hn]
    omega

theorem s111 {S : Nat} (hS : S < 1024) (h : H) : rn 111 #[iv S] h = some (iv (pop S : Nat), h) := by
  refine p111 (k := 0) (h1 := h) ?_ rfl (.refl _)
  unfold f111
  rw [wr64u hS, calls_eq (xs := [.int .u64 S]) (s64 hS h), asI_int]

theorem s110 {tv : Value} {g : List Nat} {S : Nat} {h : H} (hg : GrB g) (hs : SlR h 3 1 tv (cellsN g)) (hS : S < 2 ^ g.length) : rn 110 #[tv, iv S] h = some (iv (arN g S : Nat), h) := by
  have hlen := hg.len
  have hpow := hg.pow
  have hS' : S < 1024 := Nat.lt_of_lt_of_le hS hpow
  obtain ⟨nv, h2, e49, x2w, hn, _⟩ := s49 hS' h
  have x2 := x2w.toExt
  have hpl : (elts S).length ≤ 10 := by rw [elts_len]; exact pop_le_n (Nat.le_refl 10) hS'
  have hnl : ∀ {T : Type} (K : Int → Option T), len nv K = K ((elts S).length : Int) := fun K => by rw [hn.len]; simp
  have hl := lp_same (σ := Nat) (ρ := Empty) (F := f110_l1 rn 2000 tv nv (elts S).length) (k := 2000) (l := elts S) (h := h2) (fun i s => [iv s, iv i])
    (fun _ i s => .inl (s ||| nb g i)) (fun _ s => s < 1024) (fun _ => .ret) (fun _ => []) 0 (fun s => [iv s, iv (elts S).length]) (ws := [iv 0, iv 0]) (s0 := 0) rfl (by decide) (by omega) (by simp)
    (fun _ _ => by simp [f110_l1])
    (by
      intro i x s hx hI
      have hi := (List.getElem?_eq_some_iff.1 hx).1
      have hxS := (mem_elts hS').1 (List.mem_of_getElem? hx)
      have hxl : x < g.length := bit_lt hS hxS
      have hnw : nb g x < 1024 := Nat.lt_of_lt_of_le (hg.nb_lt x) hpow
      refine ⟨fun s' hs' => by cases hs'; exact Nat.or_lt_two_pow (n := 10) hI hnw, ?_⟩
      have e1 : ∀ (K : Value → Option (Ex × List Value × H)), (six nv (i : Int) 1 fun b o => (h2.cell b o).bind K) = K (iv x) := fun K => hn.c0 (by omega) (x := [iv x]) (by simp [hx]) rfl K
      have e2 := fun (K : Value → Option (Ex × List Value × H)) => getN (hs.ext x2) hxl K
      have hor : AM.or .i64 (s : Int) ((nb g x : Nat) : Int) = ((s ||| nb g x : Nat) : Int) := or_nat (by omega) (by omega)
      have hadd : add .i64 (i : Int) 1 = (i : Int) + 1 := add64 (by omega) (by omega)
      simp [f110_l1, hi, e1, e2, hor, hadd, rnd])
  rw [itL_inl (fun _ i s => s ||| nb g i), foldI_foldl (fun i s => s ||| nb g i)] at hl
  refine p110 (k := 2000) (h1 := h2) ?_ rfl x2
  unfold f110
  rw [calls_eq (xs := [iv S]) e49, hnl]
  refine (lp_eq hl.1).trans ?_
  rw [onE_exit, if_pos rfl]
  rfl

/-- Is there an element with a property? -/
theorem s90c {v : Value} {F : Nat} {C : List Value} {L : List Nat} {p : Nat → Bool} {h : H} (hs : SlR h 3 1 v (cellsN L)) (hm : L.length < 2 ^ 20)
    (hp : ∀ e ∈ L, rn F (iv e :: C).toArray h = some (.bool (p e), h)) :
    ∃ i : Int, rn 90 #[v, .func (.func F) #[] C.toArray] h = some (iv i, h) ∧ (0 ≤ i ↔ L.any p = true) := by
  have hn : ∀ {T : Type} (K : Int → Option T), len v K = K (L.length : Int) := fun K => by rw [hs.len]; simp
  have hlp := lp_all (F := f90_l1 rn (2 ^ 21) v (.func (.func F) #[] C.toArray) L.length) (k := 2 ^ 21) (l := L) (h := h) (fun i => [iv 0, iv i])
    (fun _ x => !p x) (fun i => [iv i, iv i]) 0 [iv 0, iv L.length] (ws := [iv 0, iv 0]) rfl (by omega)
    (by simp [f90_l1])
    (by
      intro i x hx
      have hi := (List.getElem?_eq_some_iff.1 hx).1
      have hadd : add .i64 (i : Int) 1 = (i : Int) + 1 := add64 (by omega) (by omega)
      have e1 : ∀ (K : Value → Option (Ex × List Value × H)), (six v (i : Int) 1 fun b o => (h.cell b o).bind K) = K (iv x) := fun K => hs.c0 (by omega) (x := [iv x]) (by simp [hx]) rfl K
      have cF := fun (K : Value → H → Option (Ex × List Value × H)) => calls_eq (K := K) (xs := iv x :: C) (hp x (List.mem_of_getElem? hx))
      unfold f90_l1
      rw [show AM.gv [iv 0, iv i] 1 = iv i from rfl, asI_int, lt_t (by omega), ifB_true, asK_int]
      simp only [d3]
      rw [e1, asI_int, callsV_eq]
      rw [show (#[] : Array Value).toList ++ [Value.int .i64 x] ++ C.toArray.toList = iv x :: C by simp, cF, asB_bool]
      cases p x <;> simp [hadd])
  rcases hlp with ⟨i, x, hx, hf, hbe, hl⟩ | ⟨hall, hl⟩
  · refine ⟨i, ?_, fun _ => ?_, fun _ => by omega⟩
    · refine p90 (k := 2 ^ 21) (h1 := h) ?_ rfl (.refl _)
      unfold f90
      rw [hn]
      exact (lp_eq hl).trans rfl
    · rw [List.any_eq_true]
      exact ⟨x, List.mem_of_getElem? hx, by simpa using hf⟩
  · refine ⟨-1, ?_, fun hc => by omega, fun hc => ?_⟩
    · refine p90 (k := 2 ^ 21) (h1 := h) ?_ rfl (.refl _)
      unfold f90
      rw [hn]
      exact (lp_eq hl).trans rfl
    · obtain ⟨x, hx, hpx⟩ := List.any_eq_true.1 hc
      obtain ⟨i, hi, rfl⟩ := List.getElem_of_mem hx
      have := hall i _ (List.getElem?_eq_getElem hi)
      rw [hpx] at this
      cases this

theorem s52c {v : Value} {F : Nat} {C : List Value} {L : List Nat} {p : Nat → Bool} {h : H} (hs : SlR h 3 1 v (cellsN L)) (hm : L.length < 2 ^ 20)
    (hp : ∀ e ∈ L, rn F (iv e :: C).toArray h = some (.bool (p e), h)) : rn 52 #[v, .func (.func F) #[] C.toArray] h = some (.bool (L.any p), h) := by
  obtain ⟨i, e, hi⟩ := s90c hs hm hp
  refine p52 (k := 0) (h1 := h) ?_ rfl (.refl _)
  unfold f52
  rw [calls_eq (xs := [v, .func (.func F) #[] C.toArray]) e, asI_int]
  have : AM.le 0 i = L.any p := by
    rw [Bool.eq_iff_iff, ← hi, AM.le, decide_eq_true_iff]
  rw [this]

/-- Is a set connected? -/
theorem neg_low : ((List.range 1024).all fun n => decide (n = 0) || decide (AM.and .i64 (n : Int) (sub .i64 0 (n : Int)) = ((2 ^ low n : Nat) : Int))) = true := by decide +kernel

theorem low_pow {n : Nat} (h0 : 0 < n) (h : n < 1024) : AM.and .i64 (n : Int) (sub .i64 0 (n : Int)) = ((2 ^ low n : Nat) : Int) := by
  have := List.all_eq_true.1 neg_low n (List.mem_range.2 h)
  simp only [Bool.or_eq_true, decide_eq_true_iff] at this
  exact this.resolve_left (by omega)

theorem s87 {tv : Value} {g : List Nat} {W : Nat} {h : H} (hg : GrB g) (hs : SlR h 3 1 tv (cellsN g)) (hW : W < 2 ^ g.length) : rn 87 #[tv, iv W] h = some (.bool (decide (W ≠ 0) && connS g W), h) := by
  have hlen := hg.len
  have hpow := hg.pow
  have hW' : W < 1024 := Nat.lt_of_lt_of_le hW hpow
  by_cases h0 : W = 0
  · subst h0
    exact y87 (k := 0) (by unfold f87; rfl)
  have hlb := low_bit (Nat.pos_of_ne_zero h0) hW'
  have hv := low_lt hg hW h0
  generalize hvd : low W = v at *
  have h2v : 2 ^ v < 2 ^ g.length := Nat.pow_lt_pow_right (by omega) hv
  have hlp := low_pow (Nat.pos_of_ne_zero h0) hW'
  rw [hvd] at hlp
  obtain ⟨e, ws', h', hl, rfl, rfl, w, w2, rfl⟩ := lpGo_inv (F := f87_l1 rn 2000 tv W)
    (fun d ws h2 => h2 = h ∧ ∃ (S : Nat) (z : Value), ws = [z, .bool false, iv S] ∧ S < 2 ^ g.length ∧ d + pop S = 10 ∧ S.testBit v = true ∧ ∀ u, S.testBit u = true → Rch g W v u)
    (fun e ws h2 => e = .ret ∧ h2 = h ∧ ∃ w w2, ws = [w, .bool (decide (rch g W v = W)), w2])
    (by
      rintro d ws h2 ⟨rfl, S, z, rfl, hS, hd, hSv, hSr⟩
      have hS' : S < 1024 := Nat.lt_of_lt_of_le hS hpow
      have har := arN_lt hg S
      have hand : AM.and .i64 (arN g S : Int) (W : Int) = ((arN g S &&& W : Nat) : Int) := and_nat (by omega) (by omega)
      have haw : arN g S &&& W < 1024 := Nat.and_lt_two_pow (n := 10) _ hW'
      have hor : AM.or .i64 (S : Int) ((arN g S &&& W : Nat) : Int) = ((grow g W S : Nat) : Int) := by rw [or_nat (by omega) (by omega), grow_ar hg hW hS]
      have start : f87_l1 rn 2000 tv W [z, .bool false, iv S] h2 = if grow g W S = S then some (.ret, [iv S, .bool (decide (S = W)), iv S], h2) else some (.normal, [iv (grow g W S : Nat), .bool false, iv (grow g W S : Nat)], h2) := by
        unfold f87_l1
        rw [show AM.gv [z, .bool false, iv S] 2 = iv S from rfl, calls_eq (xs := [tv, iv S]) (s110 hg hs hS), asI_int, asI_int, asI_int, hand, hor]
        by_cases hq : grow g W S = S
        · rw [if_pos hq, hq, show AM.eq (S : Int) (S : Int) = true by simp, ifB_true, asI_int]
          have : AM.eq (S : Int) (W : Int) = decide (S = W) := by unfold AM.eq; rw [Bool.eq_iff_iff, beq_iff_eq, decide_eq_true_iff]; omega
          rw [this]; rfl
        · rw [if_neg hq, show AM.eq (grow g W S : Int) (S : Int) = false by simp; omega, ifB_false]; rfl
      rw [start]
      by_cases hq : grow g W S = S
      · rw [if_pos hq]
        have hSe : S = rch g W v := rch_eq (g := g) (W := W) (v := v) (by omega) hW' hS' hSv hSr fun a b ha hab hb => by
          rw [← hq, grow_bit hS']
          exact .inr ⟨a, ha, hab, hb⟩
        refine ⟨_, _, _, rfl, .inr ⟨by simp, rfl, rfl, iv S, iv S, ?_⟩⟩
        rw [← hSe]
      · rw [if_neg hq]
        have hsub : ∀ u, S.testBit u = true → (grow g W S).testBit u = true := fun u hu => (grow_bit hS').2 (.inl hu)
        have hglt := grow_ltn hW hS
        obtain ⟨i, hi⟩ : ∃ i, (grow g W S).testBit i ≠ S.testBit i := by
          refine Classical.byContradiction fun hc => hq (Nat.eq_of_testBit_eq fun i => Classical.byContradiction fun h => hc ⟨i, h⟩)
        have hSi : S.testBit i = false := by
          cases hh : S.testBit i with
          | false => rfl
          | true => rw [hh, hsub i hh] at hi; exact absurd rfl hi
        have hGi : (grow g W S).testBit i = true := by
          cases hh : (grow g W S).testBit i with
          | true => rfl
          | false => rw [hh, hSi] at hi; exact absurd rfl hi
        have hp := pop_lt (Nat.lt_of_lt_of_le hglt hpow) hsub hGi hSi
        have hp2 := pop_le_n (Nat.le_refl 10) (Nat.lt_of_lt_of_le hglt hpow)
        refine ⟨_, _, _, rfl, .inl ⟨rfl, 10 - pop (grow g W S), by omega, rfl, grow g W S, _, rfl, hglt, by omega, hsub v hSv, fun u hu => ?_⟩⟩
        rcases (grow_bit hS').1 hu with h | ⟨a, ha, hab, hb⟩
        · exact hSr u h
        · exact .step (hSr a ha) hab hb)
    (10 - pop (2 ^ v)) 2000 (by omega) (ws := [iv (2 ^ v : Nat), .bool false, iv (2 ^ v : Nat)]) (h := h) ⟨rfl, 2 ^ v, _, rfl, h2v, by
      have := pop_le_n (Nat.le_refl 10) (show 2 ^ v < 2 ^ 10 from Nat.pow_lt_pow_right (by omega) (by omega))
      omega, by simp [Nat.testBit_two_pow], fun u hu => by
      rw [Nat.testBit_two_pow] at hu
      have : v = u := by simpa using hu
      subst this
      exact .base⟩
  have hr : connS g W = decide (rch g W v = W) := by unfold connS; rw [decide_eq_false h0, Bool.false_or, hvd]
  refine p87 (k := 2000) ?_ rfl (.refl _)
  unfold f87
  rw [show AM.eq (W : Int) 0 = false by simp; omega, ifB_false, hlp, decide_eq_true h0, Bool.true_and, hr]
  refine (lp_eq hl).trans ?_
  rw [onR_ret]
  rfl

/-! ### Edges that are laid -/
def joinL (L : List Nat) (a b : Nat) : List Nat := (L.set a (nb L a ||| 2 ^ b)).set b (nb (L.set a (nb L a ||| 2 ^ b)) b ||| 2 ^ a)

/-- A row of small numbers that is one's own. -/
abbrev NA (h : H) (b : Nat) (v : Value) (L : List Nat) : Prop := IA h b v (L.map Int.ofNat)

theorem NA.at_ {h : H} {b : Nat} {v : Value} {L : List Nat} (a : NA h b v L) {i : Nat} (hi : i < L.length) : h.cell b i = some (iv (nb L i : Nat)) := by
  rw [cell_of a.row, List.getElem?_map, List.getElem?_map, List.getElem?_eq_getElem hi]
  unfold nb
  rw [List.getD_eq_getElem?_getD, List.getElem?_eq_getElem hi]
  rfl

theorem NA.set {h : H} {b : Nat} {v : Value} {L : List Nat} (a : NA h b v L) (i x : Nat) : NA (h.set b (.row (((L.map Int.ofNat).set i (x : Int)).map iv) 3 true)) b v (L.set i x) := by
  have := IA.set a i (x : Int)
  rw [show (L.map Int.ofNat).set i (x : Int) = (L.set i x).map Int.ofNat by rw [List.map_set]; rfl] at this ⊢
  exact this

theorem NA.slR {h : H} {b : Nat} {v : Value} {L : List Nat} (a : NA h b v L) : SlR h 3 1 v (cellsN L) := by
  have := IA.slR a
  rw [List.map_map] at this
  exact this

theorem s86 {v : Value} {L : List Nat} {b i j : Nat} {h : H} (a : NA h b v L) (hi : i < L.length) (hj : j < L.length) (hlt : ∀ x ∈ L, x < 1024) (hi10 : i < 10) (hj10 : j < 10) :
    ∃ h', rn 86 #[v, iv i, iv j] h = some (undef, h') ∧ NA h' b v (joinL L i j) ∧ h'.nx = h.nx ∧ ∀ q, q < h.nx → q ≠ b → h'.blk q = h.blk q := by
  have h2i : 2 ^ i < 2 ^ 10 := Nat.pow_lt_pow_right (by omega) hi10
  have h2j : 2 ^ j < 2 ^ 10 := Nat.pow_lt_pow_right (by omega) hj10
  have nbl : ∀ {L : List Nat} {i : Nat}, (∀ x ∈ L, x < 1024) → nb L i < 1024 := by
    intro L i h
    unfold nb
    rw [List.getD_eq_getElem?_getD]
    cases hc : L[i]? with
    | none => decide
    | some x => exact h x (List.mem_of_getElem? hc)
  have ll : (L.map Int.ofNat).length = L.length := List.length_map _
  let L1 := L.set i (nb L i ||| 2 ^ j)
  have hn1 : nb L i ||| 2 ^ j < 2 ^ 10 := Nat.or_lt_two_pow (nbl hlt) h2j
  have hlt1 : ∀ x ∈ L1, x < 1024 := fun x hx => by
    rcases List.mem_or_eq_of_mem_set hx with h | h
    · exact hlt x h
    · rw [h]; exact hn1
  have hor1 : AM.or .i64 ((nb L i : Nat) : Int) ((2 ^ j : Nat) : Int) = ((nb L i ||| 2 ^ j : Nat) : Int) := by
    have := nbl (i := i) hlt
    exact or_nat (by omega) (by omega)
  have hor2 : AM.or .i64 ((nb L1 j : Nat) : Int) ((2 ^ i : Nat) : Int) = ((nb L1 j ||| 2 ^ i : Nat) : Int) := by
    have := nbl (i := j) hlt1
    exact or_nat (by omega) (by omega)
  have w1 := IA.wrc a (i := i) (by rw [ll]; exact hi) ((nb L i ||| 2 ^ j : Nat) : Int)
  have a1 := a.set i (nb L i ||| 2 ^ j)
  have ll1 : (L1.map Int.ofNat).length = L.length := by rw [List.length_map, List.length_set]
  have hq1 : ∀ q, q < h.nx → q ≠ b → (h.set b (.row (((L.map Int.ofNat).set i ((nb L i ||| 2 ^ j : Nat) : Int)).map iv) 3 true)).blk q = h.blk q := fun q _ hq => blk_set_ne _ _ _ hq
  have hnx1 : (h.set b (.row (((L.map Int.ofNat).set i ((nb L i ||| 2 ^ j : Nat) : Int)).map iv) 3 true)).nx = h.nx := rfl
  have c1 := a.at_ hi
  generalize h.set b (.row (((L.map Int.ofNat).set i ((nb L i ||| 2 ^ j : Nat) : Int)).map iv) 3 true) = h1 at *
  have c2 := a1.at_ (i := j) (by rw [List.length_set]; exact hj)
  have w2 := IA.wrc a1 (i := j) (by rw [ll1]; exact hj) ((nb L1 j ||| 2 ^ i : Nat) : Int)
  have a2 := a1.set j (nb L1 j ||| 2 ^ i)
  have hq2 : ∀ q, q < h.nx → q ≠ b → (h1.set b (.row (((L1.map Int.ofNat).set j ((nb L1 j ||| 2 ^ i : Nat) : Int)).map iv) 3 true)).blk q = h.blk q := fun q hq hb => by rw [blk_set_ne _ _ _ hb, hq1 q hq hb]
  have hnx2 : (h1.set b (.row (((L1.map Int.ofNat).set j ((nb L1 j ||| 2 ^ i : Nat) : Int)).map iv) 3 true)).nx = h.nx := hnx1
  generalize h1.set b (.row (((L1.map Int.ofNat).set j ((nb L1 j ||| 2 ^ i : Nat) : Int)).map iv) 3 true) = h2 at *
  obtain ⟨h3, e3, m3, _⟩ := x86 (k := 0) (v0 := v) (n0 := i) (n1 := j) (h := h) (h1 := h2) (v := undef) (by
    unfold f86
    simp only [d3, w3]
    rw [IA.put a (by omega) (by rw [Int.toNat_natCast, ll]; exact hi), Int.toNat_natCast, c1, Option.bind_some, asI_int, nn_ge (by omega), shl1_nat (by omega), hor1, IA.put a (by omega) (by rw [Int.toNat_natCast, ll]; exact hi), Int.toNat_natCast, w1, Option.bind_some]
    rw [IA.put a1 (by omega) (by rw [Int.toNat_natCast, ll1]; exact hj), Int.toNat_natCast, c2, Option.bind_some, asI_int, nn_ge (by omega), shl1_nat (by omega)]
    rw [show nb (L.set i (nb L i ||| 2 ^ j)) j = nb L1 j from rfl, hor2, IA.put a1 (by omega) (by rw [Int.toNat_natCast, ll1]; exact hj), Int.toNat_natCast, w2, Option.bind_some]) rfl
  exact ⟨h3, e3, IA.ext a2 m3.ext, by rw [m3.nx, hnx2], fun q hq hb => by rw [m3.blk]; exact hq2 q hq hb⟩

end Go.AM

end

section

/- K(4), and the search for a model. -/
namespace Go.AM
open Go.Proofs
variable {k : Nat} {R : Type}
attribute [local simp] nx_eq nx_new nx_set blk_new blk_set asI_int asK_int asB_bool asP_ptr al_eq bx_eq len_slice onE_exit onE_ret onR_ret Value.cells d3 d22 d23 cell_new cell_set rd_new rd_set off eq lt le ifB gv out
/-! ### K(4) -/
def cin (a j : Nat) (L : List Nat) : List Nat := (List.range j).foldl (fun L b => joinL L a b) L

def clq : Nat → List Nat
  | 0 => List.replicate 4 0
  | a + 1 => cin a a (clq a)

theorem cin_succ (a j : Nat) (L : List Nat) : cin a (j + 1) L = joinL (cin a j L) a j := by
  unfold cin
  rw [List.range_succ, List.foldl_append]
  rfl

theorem clq_ok : ∀ a, a < 4 → ∀ j, j < 4 → (cin a j (clq a)).length = 4 ∧ ∀ x ∈ cin a j (clq a), x < 1024 := by decide

theorem clq4 : clq 4 = [14, 13, 11, 7] := by decide

def k4 : List Nat := [14, 13, 11, 7]

theorem app84 : okApp Tryd.prog 84 3 1 = true := by kernel_rfl

theorem s45 (h : H) : ∃ v' h', rn 45 #[iv 4] h = some (v', h') ∧ Exw h h' ∧ SlR h' 3 1 v' (cellsN k4) := by
  have x1 := Ext.new h (.row ((List.replicate 4 0).map iv) 3 true)
  have ia1 : NA (h.new (.row ((List.replicate 4 0).map iv) 3 true)) h.nx (.slice (some ⟨h.nx, 0, none⟩) 4 4) (clq 0) := ia_new (h := h) (n := 4) (by omega) (l := List.replicate 4 (0 : Int)) (by simp)
  generalize hvv : (.slice (some ⟨h.nx, 0, none⟩) 4 4 : Value) = vv at *
  have inner : ∀ (a : Nat) (g : H), a < 4 → Ext h g → NA g h.nx vv (clq a) → ∃ g', lpGo (f45_l2 rn 2000 vv [iv a]) 2000 [iv 0] g = some (.exit 2, [iv a], g') ∧ Ext h g' ∧ NA g' h.nx vv (clq (a + 1)) := by
    intro a g ha xg na
    obtain ⟨e, ws', g', hl, rfl, rfl, xg', na'⟩ := lp_range (F := f45_l2 rn 2000 vv [iv a]) (k := 2000) (n := a)
      (fun j ws g => ws = [iv j] ∧ Ext h g ∧ NA g h.nx vv (cin a j (clq a)))
      (fun e ws g => e = .exit 2 ∧ ws = [iv a] ∧ Ext h g ∧ NA g h.nx vv (clq (a + 1)))
      (by
        rintro j ws g hj ⟨rfl, xg, na⟩
        obtain ⟨q1, q2⟩ := clq_ok a ha j (by omega)
        obtain ⟨g2, e2, n2, x2, k2⟩ := s86 na (i := a) (j := j) (by omega) (by omega) q2 (by omega) (by omega)
        have hadd : add .i64 (j : Int) 1 = ((j + 1 : Nat) : Int) := by rw [add64 (by omega) (by omega)]; omega
        have hbn := na.lt
        refine ⟨.normal, [iv ((j + 1 : Nat) : Int)], g2, ?_, .inl ⟨rfl, rfl, ⟨by have := xg.nx; omega, fun b hb => ?_⟩, by rw [cin_succ]; exact n2⟩⟩
        · unfold f45_l2
          rw [show gv [iv (j : Int)] 0 = iv j from rfl, show gv [iv (a : Int)] 0 = iv a from rfl, asI_int, asI_int, lt_t (by omega), ifB_true, calls_eq (xs := [vv, iv a, iv j]) e2, asI_int, hadd]
          rfl
        · rw [k2 b (by have := xg.nx; omega) (by omega)]
          exact xg.blk b hb)
      (by
        rintro ws g ⟨rfl, xg, na⟩
        refine ⟨.exit 2, _, g, ?_, by simp, rfl, rfl, xg, na⟩
        unfold f45_l2
        rw [show gv [iv (a : Int)] 0 = iv a from rfl, asI_int, asI_int, lt_f (by omega), ifB_false]
        rfl) (ws := [iv 0]) (h := g) (by omega) ⟨rfl, xg, na⟩
    exact ⟨g', hl, xg', na'⟩
  obtain ⟨e, ws', h', hl, rfl, xh, na⟩ := lp_range (F := f45_l1 rn 2000 4 vv) (k := 2000) (n := 4)
    (fun a ws g => ws = [iv a] ∧ Ext h g ∧ NA g h.nx vv (clq a))
    (fun e _ g => e = .exit 0 ∧ Ext h g ∧ NA g h.nx vv (clq 4))
    (by
      rintro a ws g ha ⟨rfl, xg, na⟩
      obtain ⟨g', e', x', n'⟩ := inner a g ha xg na
      have hadd : add .i64 (a : Int) 1 = ((a + 1 : Nat) : Int) := by rw [add64 (by omega) (by omega)]; omega
      refine ⟨.normal, [iv ((a + 1 : Nat) : Int)], g', ?_, .inl ⟨rfl, rfl, x', n'⟩⟩
      unfold f45_l1
      rw [show gv [iv (a : Int)] 0 = iv a from rfl, asI_int, lt_t (by omega), ifB_true, lp_eq e', onE_exit, if_pos rfl, asI_int, hadd]
      rfl)
    (by
      rintro ws g ⟨rfl, xg, na⟩
      refine ⟨.exit 0, [iv 4], g, ?_, by simp, rfl, xg, na⟩
      unfold f45_l1
      rw [show gv [iv ((4 : Nat) : Int)] 0 = iv 4 from rfl, asI_int, lt_f (by omega), ifB_false]
      rfl) (ws := [iv 0]) (h := h.new (.row ((List.replicate 4 0).map iv) 3 true)) (by omega) ⟨rfl, x1, ia1⟩
  obtain ⟨h2, e2, m2, w2⟩ := x45 (k := 2000) (n0 := 4) (h := h) (h1 := h') (v := vv) (by
    unfold f45
    have := mks_ints (P := Tryd.prog) (n := 4) app84 (by kernel_rfl) (by omega) (h := h) (fun v0 h1 => lp 2000 (f45_l1 rn 2000 4 v0) [(.int .i64 0)] h1 fun e1 ws3 h6 => onE e1 0 (some (v0, h6)) none)
    refine this.trans ?_
    rw [hvv, lp_eq hl, onE_exit, if_pos rfl]) na.slR.notR
  rw [clq4] at na
  exact ⟨vv, h2, e2, w2 xh, na.slR.ext m2.ext⟩

theorem s18 (h : H) : ∃ v' h', rn 18 #[iv 4] h = some (.tuple #[v', iv 0], h') ∧ Exw h h' ∧ SlR h' 3 1 v' (cellsN k4) := by
  obtain ⟨v', h1, e1, x1, s1⟩ := s45 h
  obtain ⟨h2, e2, m2, w2⟩ := x18 (k := 0) (n0 := 4) (h := h) (h1 := h1) (v := .tuple #[v', iv 0]) (by
    unfold f18
    rw [show AM.lt 4 1 = false from rfl, show AM.lt 6 4 = false from rfl, ifB_false, ifB_false, calls_eq (xs := [iv 4]) e1]) s1.notR2
  exact ⟨v', h2, e2, w2 x1.toExt, s1.ext m2.ext⟩

theorem k4_gr : GrN k4 := by
  have hall : ∀ a b : Nat, adj k4 a b = (decide (a < 4) && decide (b < 4) && decide (a ≠ b)) := by
    intro a b
    by_cases ha : a < 4
    · by_cases hb : b < 4
      · have : ∀ a, a < 4 → ∀ b, b < 4 → adj k4 a b = (decide (a < 4) && decide (b < 4) && decide (a ≠ b)) := by decide
        exact this a ha b hb
      · rw [decide_eq_false hb]
        simp only [Bool.and_false, Bool.false_and]
        have : nb k4 a < 2 ^ 4 := by
          have : ∀ a, a < 4 → nb k4 a < 2 ^ 4 := by decide
          exact this a ha
        unfold adj
        exact Nat.testBit_lt_two_pow (Nat.lt_of_lt_of_le this (Nat.pow_le_pow_right (by omega) (by omega)))
    · rw [decide_eq_false ha]
      unfold adj nb
      rw [List.getD_eq_getElem?_getD, List.getElem?_eq_none (by simp [k4]; omega)]
      simp
  refine ⟨⟨by decide, by decide⟩, by decide, fun a => ?_, fun a b => ?_⟩
  · rw [hall]; simp
  · rw [hall, hall]
    rw [Bool.eq_iff_iff]
    simp only [Bool.and_eq_true, decide_eq_true_iff]
    constructor
    · rintro ⟨⟨h1, h2⟩, h3⟩; exact ⟨⟨h2, h1⟩, Ne.symm h3⟩
    · rintro ⟨⟨h1, h2⟩, h3⟩; exact ⟨⟨h2, h1⟩, Ne.symm h3⟩

end Go.AM

end

section

/- The search for a model of a pattern. -/
namespace Go.AM
open Go.Proofs
variable {k : Nat} {R : Type}
attribute [local simp] nx_eq nx_new nx_set blk_new blk_set asI_int asK_int asB_bool asP_ptr al_eq bx_eq len_slice onE_exit onE_ret onR_ret Value.cells d3 d22 d23 cell_new cell_set rd_new rd_set off eq lt le ifB gv out
theorem nil_pt (b o : Nat) (x : Option R) : nil (pt b o) x = x := rfl

/-- Does a set fit the pattern, behind the sets before? -/
def fitsB (g pat M : List Nat) (S : Nat) : Bool := (elts (nb pat M.length &&& (2 ^ M.length - 1))).all fun j => decide (M.getD j 0 &&& arN g S ≠ 0)

/-- What the search holds. -/
structure MS (lo : Nat) (tv pv sv : Value) (g pat sets : List Nat) (sb : Nat) (M : List Nat) (mv : Value) (h : H) : Prop where
  lo_ : lo ≤ h.nx
  ts : SlR h 3 1 tv (cellsN g)
  ps : SlR h 3 1 pv (cellsN pat)
  ss : SlR h 3 1 sv (cellsN sets)
  tb : ∀ b, blkOf tv = some b → b < lo ∧ b ≠ sb
  pb : ∀ b, blkOf pv = some b → b < lo ∧ b ≠ sb
  sb_ : ∀ b, blkOf sv = some b → b < lo ∧ b ≠ sb
  hsb : sb < lo ∧ h.blk sb = some (.row [tv, pv, sv, mv] 128 true)
  mq : WqR lo h 3 1 mv (cellsN M)

section
variable {lo : Nat} {tv pv sv mv : Value} {g pat sets : List Nat} {sb : Nat} {M : List Nat} {h : H}
theorem MS.wne (s : MS lo tv pv sv g pat sets sb M mv h) {b : Nat} (hb : blkOf mv = some b) : lo ≤ b ∧ b < h.nx := by
  obtain ⟨h1, h2, _⟩ := s.mq.blkOf hb
  exact ⟨h1, h2⟩

theorem MS.turn (s : MS lo tv pv sv g pat sets sb M mv h) {h' : H} {M' : List Nat} {mv' : Value} (hn : h.nx ≤ h'.nx) (hf : ∀ b, b < h.nx → b ≠ sb → blkOf mv ≠ some b → h'.blk b = h.blk b)
    (hl : h'.blk sb = some (.row [tv, pv, sv, mv'] 128 true)) (ha : WqR lo h' 3 1 mv' (cellsN M')) : MS lo tv pv sv g pat sets sb M' mv' h' := by
  have hlo := s.lo_
  have key : ∀ b, b < lo ∧ b ≠ sb → h'.blk b = h.blk b := fun b hb => hf b (by omega) hb.2 (fun e => by have := (s.wne e).1; omega)
  exact ⟨Nat.le_trans s.lo_ hn, s.ts.keepB hn fun b e => key b (s.tb b e), s.ps.keepB hn fun b e => key b (s.pb b e), s.ss.keepB hn fun b e => key b (s.sb_ b e), s.tb, s.pb, s.sb_, ⟨s.hsb.1, hl⟩, ha⟩

theorem MS.ext (s : MS lo tv pv sv g pat sets sb M mv h) {h' : H} (x : Ext h h') : MS lo tv pv sv g pat sets sb M mv h' :=
  s.turn x.nx (fun b hb _ _ => x.blk b hb) ((x.blk _ (by have := s.lo_; have := s.hsb.1; omega)).trans s.hsb.2) (s.mq.keep x.nx fun b hb => x.blk b (s.mq.blkOf hb).2.1)

theorem MS.c3 (s : MS lo tv pv sv g pat sets sb M mv h) : h.cell sb 3 = some mv := by rw [cell_of s.hsb.2]; rfl

theorem MS.c2 (s : MS lo tv pv sv g pat sets sb M mv h) : h.cell sb 2 = some sv := by rw [cell_of s.hsb.2]; rfl

theorem MS.c1 (s : MS lo tv pv sv g pat sets sb M mv h) : h.cell sb 1 = some pv := by rw [cell_of s.hsb.2]; rfl

theorem MS.c0 (s : MS lo tv pv sv g pat sets sb M mv h) : h.cell sb 0 = some tv := by rw [cell_of s.hsb.2]; rfl

theorem MS.push (s : MS lo tv pv sv g pat sets sb M mv h) (x : Nat) (hl : M.length ≤ 20) : ∃ v7 h4 h5, (∀ {R : Type} (K : Value → H → Option R), (bls Tryd.prog h 22 1 [(0, iv x)] fun y h2 => app Tryd.prog h2 22 22 mv y K) = K v7 h4) ∧
    wrc 1 h4 sb 3 v7 = some h5 ∧ MS lo tv pv sv g pat sets sb (M ++ [x]) v7 h5 ∧ FO sb h mv h5 v7 := by
  have hlo := s.lo_
  have hsl := s.hsb.1
  obtain ⟨v7, h4, e4, a4, n4, k4, b4, hb4, hb4'⟩ := s.mq.push app22 app22 (bls22 (x : Int)) rfl rfl (by simp; omega) s.lo_
  have hlb4 : h4.blk sb = some (.row [tv, pv, sv, mv] 128 true) := (k4 sb (by omega) (fun e => by have := (s.wne e).1; omega)).trans s.hsb.2
  have hw : wrc 1 h4 sb 3 v7 = some (h4.set sb (.row [tv, pv, sv, v7] 128 true)) := by rw [wrc_one hlb4 a4.cells.1 a4.cells.2 (by simp)]; rfl
  have hb4n := (a4.blkOf hb4).1
  have ha : WqR lo (h4.set sb (.row [tv, pv, sv, v7] 128 true)) 3 1 v7 (cellsN (M ++ [x])) := by
    have := a4.keep (h' := h4.set sb (.row [tv, pv, sv, v7] 128 true)) (Nat.le_refl _) fun b hb => blk_set_ne _ _ _ (fun e => by
      have := (a4.blkOf hb).1
      omega)
    simpa using this
  have hf : ∀ b, b < h.nx → b ≠ sb → blkOf mv ≠ some b → (h4.set sb (.row [tv, pv, sv, v7] 128 true)).blk b = h.blk b := fun b h1 h2 h3 => by rw [blk_set_ne _ _ _ h2]; exact k4 b h1 h3
  refine ⟨v7, h4, _, e4, hw, s.turn n4 hf (blk_set_self _ _ _) ha, n4, hf, fun b hb => ?_⟩
  rw [hb4] at hb
  cases hb
  exact hb4'

theorem MS.pop {x : Nat} (s : MS lo tv pv sv g pat sets sb (M ++ [x]) mv h) : ∃ v' h', (∀ {R : Type} (K : Value → Option R), sli Tryd.prog h 22 mv none (some (.int .i64 M.length)) none K = K v') ∧
    wrc 1 h sb 3 v' = some h' ∧ MS lo tv pv sv g pat sets sb M v' h' ∧ FO sb h mv h' v' := by
  have hway : WqR lo h 3 1 mv (cellsN M ++ [[iv (x : Int)]]) := by simpa using s.mq
  obtain ⟨v', e', a', b'⟩ := hway.pop under22 sz3
  refine ⟨v', h.set sb (.row [tv, pv, sv, v'] 128 true), fun K => ?_, by rw [wrc_one s.hsb.2 a'.cells.1 a'.cells.2 (by simp)]; rfl, ?_, Nat.le_refl _, fun b _ hb _ => blk_set_ne _ _ _ hb, fun b hb => .inr (b' ▸ hb)⟩
  · have := e' K
    rw [List.length_map] at this
    exact this
  · exact s.turn (Nat.le_refl _) (fun b h1 h2 _ => blk_set_ne _ _ _ h2) (blk_set_self _ _ _) (a'.keep (Nat.le_refl _) fun b hb => blk_set_ne _ _ _ (fun e => by
      have := (a'.blkOf hb).1
      have := s.hsb.1
      omega))

theorem MS.trunc {h1 : H} {M' : List Nat} {mv' v : Value} (s : MS lo tv pv sv g pat sets sb M mv h) (s1 : MS lo tv pv sv g pat sets sb M' mv' h1) (f : FO sb h mv h1 mv') :
    MS lo tv pv sv g pat sets sb M' mv' (AM.trunc Tryd.prog h h1 v) ∧ FO sb h mv (AM.trunc Tryd.prog h h1 v) mv' := by
  obtain ⟨q1, q2, q3⟩ := trunc_blk (P := Tryd.prog) (v := v) f.nx
  refine ⟨?_, q1, fun b hb h1 h2 => (q3 b hb).trans (f.fr b hb h1 h2), f.wb⟩
  have hlo := s.lo_
  have hsl := s.hsb.1
  unfold AM.trunc
  by_cases hu : ∀ b, b < h.nx → h1.blk b = h.blk b
  · rw [if_pos hu]
    split
    · have e : mv' = mv := by
        have h1 := s1.hsb.2
        rw [hu sb (by omega), s.hsb.2] at h1
        simpa using h1.symm
      subst e
      refine ⟨s.lo_, s.ts, s.ps, s.ss, s.tb, s.pb, s.sb_, s.hsb, ?_⟩
      have a := s1.mq
      generalize cellsN M' = c' at a
      cases a with
      | nil => exact .nil
      | @at_ b c m l0 junk hlo hb hr hx hm hj hc =>
        have hbn : b < h.nx := (s.mq.blkOf (b := b) rfl).2.1
        exact .at_ hlo hbn ((hu b hbn).symm.trans hr) hx hm hj hc
    · exact s1.ext ⟨Nat.le_refl _, fun _ _ => rfl⟩
  · rw [if_neg hu]; exact s1

/-- A set's fitting. -/
theorem s112 (hg : GrB g) (hpat : GrB pat) (s : MS lo tv pv sv g pat sets sb M mv h) (hM : M.length < pat.length) (hMx : ∀ x ∈ M, x < 1024) {S : Nat} (hS : S < 2 ^ g.length) :
    rn 112 #[pt sb 0, iv S, iv M.length] h = some (.bool (fitsB g pat M S), h) := by
  have hlen := hg.len
  have hpow := hg.pow
  have hpl := hpat.len
  have hpp := hpat.pow
  have hlo := s.lo_
  have hsl := s.hsb.1
  let h1 := h.new (.row [pt sb 0] 126 true)
  have x1 : Ext h h1 := Ext.new h _
  have s1 := s.ext x1
  let h2 := h1.fresh 3 [iv 0] [iv (arN g S : Nat)]
  have x2 : Ext h1 h2 := (Ext.refl h1).fresh 3 _ _
  have s2 := s1.ext x2
  have b1 : h1.blk h.nx = some (.row [pt sb 0] 126 true) := blk_new_self _ _
  have b1' : h2.blk h.nx = some (.row [pt sb 0] 126 true) := (x2.blk _ (Nat.lt_succ_self _)).trans b1
  have b2 : h2.blk h1.nx = some (.row [iv (arN g S : Nat)] 3 true) := blk_fresh _ _ _ _
  have hnb := hpat.nb_lt M.length
  have hmask : nb pat M.length &&& (2 ^ M.length - 1) < 1024 := Nat.lt_of_le_of_lt Nat.and_le_left (by omega)
  obtain ⟨nv, h3, e49, x3, hn3, _⟩ := s49 hmask h2
  have s3 := s2.ext x3.toExt
  have har := arN_lt hg S
  have hclos : ∀ e ∈ elts (nb pat M.length &&& (2 ^ M.length - 1)), rn 120 (iv e :: [pt h.nx 0, pt h1.nx 0]).toArray h3 = some (.bool (decide (M.getD e 0 &&& arN g S = 0)), h3) := by
    intro e he
    have heb := (mem_elts hmask).1 he
    rw [Nat.testBit_and, Bool.and_eq_true, Nat.testBit_two_pow_sub_one, decide_eq_true_iff] at heb
    have heM : e < M.length := heb.2
    have hmx := hMx _ (List.mem_of_getElem? (get_of heM))
    have e1 : ∀ (K : Value → Option (Value × H)), (six mv (e : Int) 1 fun b o => (h3.cell b o).bind K) = K (iv (M.getD e 0 : Nat)) := fun K => s3.mq.slR.c0 (by omega) (x := [iv (M.getD e 0 : Nat)]) (by rw [Int.toNat_natCast, List.getElem?_map, get_of heM]; rfl) rfl K
    have c0 : h3.cell h.nx 0 = some (pt sb 0) := by rw [cell_of ((x3.blk _ (show h.nx < h2.nx from (by show h.nx < h.nx + 1 + 1; omega))).trans b1')]; rfl
    have c1 : h3.cell h1.nx 0 = some (iv (arN g S : Nat)) := by rw [cell_of ((x3.blk _ (show h1.nx < h2.nx from Nat.lt_succ_self _)).trans b2)]; rfl
    have hand : AM.and .i64 ((M.getD e 0 : Nat) : Int) ((arN g S : Nat) : Int) = ((M.getD e 0 &&& arN g S : Nat) : Int) := and_nat (by omega) (by omega)
    refine y120 (k := 0) ?_
    unfold f120
    simp only [d3, d22, d126, asP_ptr]
    rw [c0, Option.bind_some, nil_pt, asP_ptr, show AM.off 0 3 = 3 from rfl, s3.c3, Option.bind_some, e1, asI_int, c1, Option.bind_some, asI_int, hand]
    have : AM.eq ((M.getD e 0 &&& arN g S : Nat) : Int) 0 = decide (M.getD e 0 &&& arN g S = 0) := by unfold AM.eq; rw [Bool.eq_iff_iff, beq_iff_eq, decide_eq_true_iff]; omega
    rw [this]
  have hel : (elts (nb pat M.length &&& (2 ^ M.length - 1))).length < 2 ^ 20 := by
    rw [elts_len]
    have := pop_le_n (Nat.le_refl 10) hmask
    omega
  have e52 := s52c (F := 120) (C := [pt h.nx 0, pt h1.nx 0]) hn3 hel hclos
  have hval : (!(elts (nb pat M.length &&& (2 ^ M.length - 1))).any fun j => decide (M.getD j 0 &&& arN g S = 0)) = fitsB g pat M S := by
    unfold fitsB
    rw [Bool.eq_iff_iff, Bool.not_eq_true', List.any_eq_false, List.all_eq_true]
    constructor
    · intro h j hj; have := h j hj; simpa using this
    · intro h j hj; have := h j hj; simpa using this
  refine p112 (k := 0) (h1 := h3) ?_ rfl ((x1.trans x2).trans x3.toExt)
  unfold f112
  rw [bx_eq, show h.new (.row (pt sb 0).cells.toList 126 true) = h1 from rfl]
  simp only [nx_eq]
  rw [d126, cell_of b1, List.getElem?_cons_zero, Option.bind_some, nil_pt, asP_ptr, d84, s1.c0, Option.bind_some, calls_eq (xs := [tv, iv S]) (s110 hg s1.ts hS), asI_int]
  have hal := al_st1 (P := Tryd.prog) (h := h1) (z := iv 0) (v := iv (arN g S : Nat)) (t := 3) (K := fun h4 => ld Tryd.prog h4 126 h.nx 0 fun v4 => nil v4 (asP v4 fun b2 b3 => ld Tryd.prog h4 84 b2 (off b3 1) fun v5 => six v5 (M.length : Int) 1 fun b4 b5 => ld Tryd.prog h4 3 b4 b5 fun v6 => asI .i64 v6 fun n3 => nn (M.length : Int) (calls rn h4 49 [(.int .i64 (and .i64 n3 (sub .i64 (shl .i64 1 (M.length : Int)) 1)))] fun v7 h5 => calls rn h5 52 [v7, (.func (.func 120) #[] #[(pt h.nx 0), (pt h1.nx 0)])] fun v8 h6 => asB v8 fun q0 => some (Value.bool (!q0), h6)))) sz3 rfl rfl
  refine hal.trans ?_
  rw [show h1.fresh 3 [iv 0] [iv (arN g S : Nat)] = h2 from rfl]
  rw [d126, cell_of b1', List.getElem?_cons_zero, Option.bind_some, nil_pt, asP_ptr, d84, show AM.off 0 1 = 1 from rfl, s2.c1, Option.bind_some]
  have hmm : AM.and .i64 ((nb pat M.length : Nat) : Int) (sub .i64 (AM.shl .i64 1 (M.length : Int)) 1) = ((nb pat M.length &&& (2 ^ M.length - 1) : Nat) : Int) := by
    rw [shl_all (by omega)]
    have : 2 ^ M.length ≤ 2 ^ 10 := Nat.pow_le_pow_right (by omega) (by omega)
    exact and_nat (by omega) (by omega)
  simp only [d3]
  rw [getN s2.ps hM, asI_int, nn_ge (by omega), hmm, calls_eq (xs := [iv (nb pat M.length &&& (2 ^ M.length - 1) : Nat)]) e49]
  rw [show (#[(pt h.nx 0), (pt h1.nx 0)] : Array Value) = [pt h.nx 0, pt h1.nx 0].toArray from rfl, calls_eq (xs := [nv, .func (.func 120) #[] [pt h.nx 0, pt h1.nx 0].toArray]) e52, asB_bool, hval]

/-- How a model goes on. -/
def Comp (g pat sets : List Nat) : List Nat → List Nat → Nat → Nat → Prop
  | [], M, _, left => M.length = pat.length ∧ left = 0
  | S :: Ms, M, used, left => M.length < pat.length ∧ S ∈ sets ∧ S &&& used = 0 ∧ fitsB g pat M S = true ∧ pop S ≤ left ∧ Comp g pat sets Ms (M ++ [S]) (used ||| S) (left - pop S)

theorem comp_len : ∀ {Ms M : List Nat} {used left : Nat}, (∀ x ∈ sets, 0 < pop x) → Comp g pat sets Ms M used left → Ms.length + M.length = pat.length ∧ Ms.length ≤ left
  | [], M, _, _, _, h => ⟨by simpa using h.1, Nat.zero_le _⟩
  | S :: Ms, M, used, left, hs, h => by
    obtain ⟨h1, h2, _, _, h5, h6⟩ := h
    obtain ⟨q1, q2⟩ := comp_len hs h6
    have := hs S h2
    rw [List.length_append, List.length_singleton] at q1
    rw [List.length_cons]
    omega

/-- What stands twice in the text: a set is tried. -/
noncomputable def try88 (rec : Rec) (v0 : Value) (n0 n1 n2 n8 : Int) (ws0 : List Value) (h4 : H) : Option (Ex × List Value × H) :=
  nil v0 (
    asP v0 fun b10 b11 =>
    ld Tryd.prog h4 22 b10 (off b11 3) fun v9 =>
    bls Tryd.prog h4 22 1 [(0, (.int .i64 n8))] fun v10 h5 =>
    app Tryd.prog h5 22 22 v9 v10 fun v11 h6 =>
    nil v0 (
      asP v0 fun b12 b13 =>
      st Tryd.prog h6 22 b12 (off b13 3) v11 fun h7 =>
      calls rec h7 111 [(.int .i64 n8)] fun v12 h8 =>
      asI .i64 v12 fun n15 =>
      calls rec h8 88 [v0, (.int .i64 (or .i64 n0 n8)), (.int .i64 (sub .i64 n1 n15))] fun v13 h9 =>
      asB v13 fun q1 =>
      ifB q1 (
        out .ret [(.bool true), gv ws0 1] h9) (
        nil v0 (
          asP v0 fun b14 b15 =>
          ld Tryd.prog h9 22 b14 (off b15 3) fun v14 =>
          sli Tryd.prog h9 22 v14 none (some (.int .i64 n2)) none fun v15 =>
          nil v0 (
            asP v0 fun b16 b17 =>
            st Tryd.prog h9 22 b16 (off b17 3) v15 fun h10 =>
            asI .i64 (gv ws0 1) fun n16 =>
            out .normal [gv ws0 0, (.int .i64 (add .i64 n16 1))] h10)))))

theorem s88 (hg : GrB g) (hpat : GrB pat) (hsx : ∀ x ∈ sets, x < 2 ^ g.length ∧ 0 < pop x) (hsl : sets.length < 2000) : ∀ (d : Nat) (M : List Nat) (mv : Value) (used left : Nat) (h : H), M.length + d = pat.length → used < 2 ^ g.length → left ≤ 100 → (∀ x ∈ M, x < 1024) →
    MS lo tv pv sv g pat sets sb M mv h →
    ∃ h' r mv', rn 88 #[pt sb 0, iv used, iv left] h = some (.bool r, h') ∧ FO sb h mv h' mv' ∧
      ((r = true ∧ ∃ L, L.length = pat.length ∧ MS lo tv pv sv g pat sets sb L mv' h') ∨ (r = false ∧ (∀ Ms, ¬ Comp g pat sets Ms M used left) ∧ MS lo tv pv sv g pat sets sb M mv' h')) := by
  have hlen := hg.len
  have hpow := hg.pow
  have hpl := hpat.len
  intro d
  induction d with
  | zero =>
    intro M mv used left h hMd hu hlf hMx s
    refine ⟨h, true, mv, y88 (k := 0) ?_, .refl _ _ _, .inl ⟨rfl, M, by omega, s⟩⟩
    have hml : ∀ {T : Type} (K : Int → Option T), len mv K = K (M.length : Int) := fun K => by rw [s.mq.slR.len]; simp
    have hpl : ∀ {T : Type} (K : Int → Option T), len pv K = K (pat.length : Int) := fun K => by rw [s.ps.len]; simp
    unfold f88
    simp only [d22, d84, asP_ptr, nil_pt]
    rw [show AM.off 0 3 = 3 from rfl, s.c3, Option.bind_some, hml, show AM.off 0 1 = 1 from rfl, s.c1, Option.bind_some, hpl, show AM.eq (M.length : Int) (pat.length : Int) = true by simp; omega, ifB_true]
  | succ d ih =>
    intro M mv used left h hMd hu hlf hMx s
    have hu' : used < 1024 := by omega
    have hml : ∀ {T : Type} (K : Int → Option T), len mv K = K (M.length : Int) := fun K => by rw [s.mq.slR.len]; simp
    have hpl : ∀ {T : Type} (K : Int → Option T), len pv K = K (pat.length : Int) := fun K => by rw [s.ps.len]; simp
    have hsn : ∀ {T : Type} (K : Int → Option T), len sv K = K (sets.length : Int) := fun K => by rw [s.ss.len]; simp
    obtain ⟨e, ws', h', hl', mv', hf', hq⟩ := lp_range (F := f88_l1 rn 2000 (pt sb 0) used left M.length pat.length sv sets.length) (k := 2000) (n := sets.length)
      (fun i ws g' => ws = [.bool false, iv i] ∧ (∃ mv', FO sb h mv g' mv' ∧ MS lo tv pv sv g pat sets sb M mv' g') ∧ ∀ j S, j < i → sets[j]? = some S → ∀ Ms, ¬ Comp g pat sets (S :: Ms) M used left)
      (fun e ws g' => ∃ mv', FO sb h mv g' mv' ∧
        ((e = .ret ∧ ∃ w, ws = [.bool true, w] ∧ ∃ L, L.length = pat.length ∧ MS lo tv pv sv g pat sets sb L mv' g') ∨ (e = .exit 0 ∧ (∀ Ms, ¬ Comp g pat sets Ms M used left) ∧ MS lo tv pv sv g pat sets sb M mv' g')))
      (by
        rintro i ws g1 hi ⟨rfl, ⟨mv1, fo1, o1⟩, hno⟩
        have hx := List.getElem?_eq_getElem hi
        generalize sets[i] = S at hx
        have hSm := List.mem_of_getElem? hx
        obtain ⟨hSg, hSp⟩ := hsx S hSm
        have hS' : S < 1024 := by omega
        have hadd : add .i64 (i : Int) 1 = ((i + 1 : Nat) : Int) := by rw [add64 (by omega) (by omega)]; omega
        have e1 : ∀ (K : Value → Option (Ex × List Value × H)), (six sv (i : Int) 1 fun b o => (g1.cell b o).bind K) = K (iv S) := fun K => o1.ss.c0 (by omega) (x := [iv S]) (by simp [hx]) rfl K
        have hand : AM.and .i64 (S : Int) (used : Int) = ((S &&& used : Nat) : Int) := and_nat (by omega) (by omega)
        have c111 := fun (g : H) (K : Value → H → Option (Ex × List Value × H)) => calls_eq (K := K) (xs := [iv S]) (s111 hS' g)
        have c112 := fun (K : Value → H → Option (Ex × List Value × H)) => calls_eq (K := K) (xs := [pt sb 0, iv S, iv M.length]) (s112 hg hpat o1 (by omega) hMx hSg)
        have hafter : sub .i64 (sub .i64 (pat.length : Int) (M.length : Int)) 1 = (d : Int) := by
          rw [show sub .i64 (pat.length : Int) (M.length : Int) = ((d + 1 : Nat) : Int) by rw [sub64 (by omega) (by omega)]; omega]
          rw [sub64 (by omega) (by omega)]; omega
        have hp10 := pop_le_n hlen hSg
        -- not this one
        have skip : (∀ Ms, ¬ Comp g pat sets (S :: Ms) M used left) → ((∃ mv', FO sb h mv g1 mv' ∧ MS lo tv pv sv g pat sets sb M mv' g1) ∧ ∀ j y, j < i + 1 → sets[j]? = some y → ∀ Ms, ¬ Comp g pat sets (y :: Ms) M used left) := by
          intro hS
          refine ⟨⟨mv1, fo1, o1⟩, fun j y hj hy => ?_⟩
          by_cases hji : j < i
          · exact hno j y hji hy
          · have : j = i := by omega
            subst this
            rw [hx] at hy
            cases hy
            exact hS
        -- this one
        have go : S &&& used = 0 → fitsB g pat M S = true → pop S ≤ left → ∃ e ws' h', try88 rn (pt sb 0) used left M.length S [.bool false, iv i] g1 = some (e, ws', h') ∧
            ((e = .normal ∧ ws' = [.bool false, iv ((i + 1 : Nat) : Int)] ∧ (∃ mv', FO sb h mv h' mv' ∧ MS lo tv pv sv g pat sets sb M mv' h') ∧ ∀ j y, j < i + 1 → sets[j]? = some y → ∀ Ms, ¬ Comp g pat sets (y :: Ms) M used left) ∨
              (e ≠ .normal ∧ ∃ mv', FO sb h mv h' mv' ∧ ((e = .ret ∧ ∃ w, ws' = [.bool true, w] ∧ ∃ L, L.length = pat.length ∧ MS lo tv pv sv g pat sets sb L mv' h') ∨ (e = .exit 0 ∧ (∀ Ms, ¬ Comp g pat sets Ms M used left) ∧ MS lo tv pv sv g pat sets sb M mv' h')))) := by
          intro hdis hfit hle
          obtain ⟨v7, h4, h5, e4, w5, o5, fo5⟩ := o1.push S (by omega)
          have hor : AM.or .i64 (used : Int) (S : Int) = ((used ||| S : Nat) : Int) := or_nat (by omega) (by omega)
          have hsub : sub .i64 (left : Int) ((pop S : Nat) : Int) = ((left - pop S : Nat) : Int) := by rw [sub64 (by omega) (by omega)]; omega
          obtain ⟨h7, r, lv7, e7, fo7, q⟩ := ih (M ++ [S]) v7 (used ||| S) (left - pop S) h5 (by simp; omega) (Nat.or_lt_two_pow hu hSg) (by omega) (fun x hx => by
            rcases List.mem_append.1 hx with hx | hx
            · exact hMx x hx
            · rw [List.mem_singleton.1 hx]; exact hS') o5
          have fo17 := (fo1.trans fo5).trans fo7
          have head : try88 rn (pt sb 0) used left M.length S [.bool false, iv i] g1 = (asB (.bool r) fun q1 => ifB q1 (out .ret [(.bool true), iv (i : Int)] h7) (
              ld Tryd.prog h7 22 sb 3 fun v14 =>
              sli Tryd.prog h7 22 v14 none (some (.int .i64 M.length)) none fun v15 =>
              st Tryd.prog h7 22 sb 3 v15 fun h10 =>
              out .normal [.bool false, iv ((i + 1 : Nat) : Int)] h10)) := by
            unfold try88
            simp only [nil_pt, asP_ptr, show AM.off 0 3 = 3 from rfl]
            rw [d22, o1.c3, Option.bind_some, e4, w22, w5, Option.bind_some, c111, asI_int, hor, hsub, calls_eq (xs := [pt sb 0, iv (used ||| S : Nat), iv (left - pop S : Nat)]) e7]
            simp only [show gv [Value.bool false, iv (i : Int)] 1 = iv i from rfl, show gv [Value.bool false, iv (i : Int)] 0 = .bool false from rfl, asI_int, hadd]
          rw [head]
          rcases q with ⟨rfl, L, hL, o7⟩ | ⟨rfl, hm, o7⟩
          · exact ⟨.ret, _, h7, by rw [asB_bool, ifB_true]; rfl, .inr ⟨by simp, lv7, fo17, .inl ⟨rfl, _, rfl, L, hL, o7⟩⟩⟩
          · obtain ⟨v10, h10, e10, w10, o10, fo10⟩ := o7.pop
            refine ⟨.normal, _, h10, by rw [asB_bool, ifB_false, d22, o7.c3, Option.bind_some, e10, w22, w10, Option.bind_some]; rfl, .inl ⟨rfl, rfl, ⟨v10, fo17.trans fo10, o10⟩, fun j y hj hy Ms hc => ?_⟩⟩
            by_cases hji : j < i
            · exact hno j y hji hy Ms hc
            · have : j = i := by omega
              subst this
              rw [hx] at hy
              cases hy
              exact hm Ms hc.2.2.2.2.2
        have head : f88_l1 rn 2000 (pt sb 0) used left M.length pat.length sv sets.length [.bool false, iv i] g1 =
            ifB (not (eq ((S &&& used : Nat) : Int) 0)) (out .normal [.bool false, iv ((i + 1 : Nat) : Int)] g1) (
              ifB (lt (sub .i64 left (d : Int)) ((pop S : Nat) : Int)) (out .normal [.bool false, iv ((i + 1 : Nat) : Int)] g1) (
                ifB (eq (d : Int) 0) (
                  ifB (not (eq ((pop S : Nat) : Int) left)) (out .normal [.bool false, iv ((i + 1 : Nat) : Int)] g1) (
                    ifB (not (fitsB g pat M S)) (out .normal [.bool false, iv ((i + 1 : Nat) : Int)] g1) (try88 rn (pt sb 0) used left M.length S [.bool false, iv i] g1))) (
                  ifB (not (fitsB g pat M S)) (out .normal [.bool false, iv ((i + 1 : Nat) : Int)] g1) (try88 rn (pt sb 0) used left M.length S [.bool false, iv i] g1)))) := by
          unfold f88_l1 try88
          rw [show gv [Value.bool false, iv (i : Int)] 1 = iv i from rfl, show gv [Value.bool false, iv (i : Int)] 0 = .bool false from rfl, asI_int, lt_t (by omega), ifB_true, asK_int]
          have e1' : ∀ (K : Value → Option (Ex × List Value × H)), (six sv (i : Int) 1 fun b o => ld Tryd.prog g1 3 b o K) = K (iv S) := fun K => by
            have := e1 K
            simp only [d3]
            exact this
          rw [e1', asI_int, hand, c111, asI_int, hafter, c111, asI_int, c112, asB_bool]
          simp only [asI_int, hadd, show gv [Value.bool false, iv (i : Int)] 1 = iv i from rfl, show gv [Value.bool false, iv (i : Int)] 0 = .bool false from rfl]
        rw [head]
        have hsubI : sub .i64 (left : Int) (d : Int) = (left : Int) - d := sub64 (by omega) (by omega)
        have hlenx : ∀ Ms, Comp g pat sets (S :: Ms) M used left → Ms.length = d ∧ d ≤ left - pop S ∧ pop S ≤ left := by
          intro Ms hc
          obtain ⟨q1, q2⟩ := comp_len (fun x hx => (hsx x hx).2) hc.2.2.2.2.2
          rw [List.length_append, List.length_singleton] at q1
          exact ⟨by omega, by omega, hc.2.2.2.2.1⟩
        by_cases k1 : S &&& used = 0
        · rw [k1, show AM.eq ((0 : Nat) : Int) 0 = true from rfl, show (!true) = false from rfl, ifB_false, hsubI]
          by_cases k2 : (left : Int) - d < (pop S : Nat)
          · rw [lt_t k2, ifB_true]
            refine ⟨.normal, _, g1, rfl, .inl ⟨rfl, rfl, skip fun Ms hc => ?_⟩⟩
            have := hlenx Ms hc
            omega
          · rw [lt_f k2, ifB_false]
            by_cases k4 : fitsB g pat M S = true
            · rw [k4, show (!true) = false from rfl, ifB_false]
              by_cases k3 : d = 0
              · subst k3
                rw [show AM.eq ((0 : Nat) : Int) 0 = true from rfl, ifB_true]
                by_cases k5 : pop S = left
                · rw [k5, show AM.eq (left : Int) left = true by simp, show (!true) = false from rfl, ifB_false]
                  have := go k1 k4 (by omega)
                  exact this
                · rw [show AM.eq ((pop S : Nat) : Int) left = false by simp; omega, show (!false) = true from rfl, ifB_true]
                  refine ⟨.normal, _, g1, rfl, .inl ⟨rfl, rfl, skip fun Ms hc => ?_⟩⟩
                  obtain ⟨q1, q2, q3⟩ := hlenx Ms hc
                  have : Ms = [] := List.eq_nil_of_length_eq_zero q1
                  subst this
                  have := hc.2.2.2.2.2.2
                  omega
              · rw [show AM.eq (d : Int) 0 = false by simp; omega, ifB_false]
                exact go k1 k4 (by omega)
            · have k4' : fitsB g pat M S = false := by simpa using k4
              rw [k4', show (!false) = true from rfl]
              simp only [ifB_true]
              refine ⟨.normal, [.bool false, iv ((i + 1 : Nat) : Int)], g1, ?_, .inl ⟨rfl, rfl, skip fun Ms hc => ?_⟩⟩
              · cases AM.eq (d : Int) 0 <;> cases (!AM.eq ((pop S : Nat) : Int) left) <;> rfl
              · rw [hc.2.2.2.1] at k4'; cases k4'
        · rw [show AM.eq ((S &&& used : Nat) : Int) 0 = false by simp; omega, show (!false) = true from rfl, ifB_true]
          refine ⟨.normal, _, g1, rfl, .inl ⟨rfl, rfl, skip fun Ms hc => k1 hc.2.2.1⟩⟩)
      (by
        rintro ws g1 ⟨rfl, ⟨mv1, fo1, o1⟩, hno⟩
        refine ⟨.exit 0, [.bool false, iv sets.length], g1, ?_, by simp, mv1, fo1, .inr ⟨rfl, fun Ms hm => ?_, o1⟩⟩
        · unfold f88_l1
          rw [show gv [Value.bool false, iv (sets.length : Int)] 1 = iv sets.length from rfl, asI_int, lt_f (by omega), ifB_false]
          rfl
        · cases Ms with
          | nil => have := hm.1; omega
          | cons S Ms =>
            obtain ⟨j, hj⟩ := List.mem_iff_getElem?.1 hm.2.1
            exact hno j S (List.getElem?_eq_some_iff.1 hj).1 hj Ms hm)
      (ws := [.bool false, iv 0]) (h := h) (by omega) ⟨rfl, ⟨mv, .refl _ _ _, s⟩, fun j x hj => by omega⟩
    have head : ∀ r, (onE e 0 (some (Value.bool false, h')) (onR e (some (gv ws' 0, h')))) = some (.bool r, h') → f88 rn 2000 (pt sb 0) used left h = some (.bool r, h') := by
      intro r hr
      unfold f88
      simp only [d22, d84, asP_ptr, nil_pt]
      rw [show AM.off 0 3 = 3 from rfl, s.c3, Option.bind_some, hml, show AM.off 0 1 = 1 from rfl, s.c1, Option.bind_some, hpl, show AM.eq (M.length : Int) (pat.length : Int) = false by simp; omega, ifB_false, Option.bind_some, hpl, show AM.off 0 2 = 2 from rfl, s.c2, Option.bind_some, hsn]
      exact (lp_eq hl').trans hr
    rcases hq with ⟨rfl, w, rfl, L, hL, o⟩ | ⟨rfl, hm, o⟩
    · obtain ⟨t1, t2⟩ := s.trunc (v := .bool true) o hf'
      exact ⟨_, true, mv', t88 (k := 2000) (h1 := h') (head true (by rw [onE_ret, onR_ret]; rfl)), t2, .inl ⟨rfl, L, hL, t1⟩⟩
    · obtain ⟨t1, t2⟩ := s.trunc (v := .bool false) o hf'
      exact ⟨_, false, mv', t88 (k := 2000) (h1 := h') (head false (by rw [onE_exit, if_pos rfl])), t2, .inr ⟨rfl, hm, t1⟩⟩

end
end Go.AM

end

section

/- Model. -/
namespace Go.AM
open Go.Proofs
variable {k : Nat} {R : Type}
attribute [local simp] nx_eq nx_new nx_set blk_new blk_set asI_int asK_int asB_bool asP_ptr al_eq bx_eq len_slice onE_exit onE_ret onR_ret Value.cells d3 d22 d23 cell_new cell_set rd_new rd_set off eq lt le ifB gv out
theorem kbld128 (a b : Option Addr) (n m c d : Nat) (K : Value → Option R) : bld Tryd.prog 128 [(0, .slice a n c), (1, .slice b m d)] K = K (.agg #[.slice a n c, .slice b m d, .slice none 0 0, .slice none 0 0]) := bld_some (by kernel_rfl)

noncomputable def conQ (g : List Nat) (W : Nat) : Bool := decide (W ≠ 0) && connS g W

noncomputable def setsF (g : List Nat) (i : Nat) : List Nat := ((List.range i).map (· + 1)).filter (conQ g)

theorem setsF_mem {g : List Nat} {i S : Nat} : S ∈ setsF g i ↔ 0 < S ∧ S ≤ i ∧ connS g S = true := by
  unfold setsF conQ
  rw [List.mem_filter, List.mem_map, Bool.and_eq_true, decide_eq_true_iff]
  constructor
  · rintro ⟨⟨j, hj, rfl⟩, _, h⟩
    rw [List.mem_range] at hj
    exact ⟨by omega, by omega, h⟩
  · rintro ⟨h1, h2, h3⟩
    exact ⟨⟨S - 1, List.mem_range.2 (by omega), by omega⟩, by omega, h3⟩

theorem setsF_len (g : List Nat) (i : Nat) : (setsF g i).length ≤ i := by
  unfold setsF
  have := List.length_filter_le (conQ g) ((List.range i).map (· + 1))
  rwa [List.length_map, List.length_range] at this

theorem s47 {tv pv : Value} {g pat : List Nat} {h : H} (hg : GrB g) (hg1 : 1 ≤ g.length) (hpat : GrB pat) (hp1 : 1 ≤ pat.length) (hs : SlR h 3 1 tv (cellsN g)) (hps : SlR h 3 1 pv (cellsN pat)) :
    ∃ v' h', rn 47 #[tv, pv] h = some (v', h') ∧ Exw h h' ∧ ((∃ b o n c, v' = .slice (some ⟨b, o, none⟩) n c) ∨ (v' = .slice none 0 0 ∧ ∀ size, pat.length ≤ size → size ≤ g.length → ∀ Ms, ¬ Comp g pat (setsF g (allN g)) Ms [] 0 size)) := by
  have hlen := hg.len
  have hpow := hg.pow
  have hpl := hpat.len
  have hall := allN_lt g
  have hbel : ∀ {v : Value} {L : List (List Value)} {b : Nat}, SlR h 3 1 v L → blkOf v = some b → b < h.nx := fun a hb => by
    cases a with
    | nil => cases hb
    | at_ hb' => cases hb; exact hb'
  obtain ⟨ta, tn, tc, htv⟩ := hs.isSl
  obtain ⟨pa, pn, pc, hpv⟩ := hps.isSl
  let sb := h.nx
  let h1 := h.new (.row [tv, pv, .slice none 0 0, .slice none 0 0] 128 true)
  have x1 : Ext h h1 := Ext.new h _
  have hb1 : h1.blk sb = some (.row [tv, pv, .slice none 0 0, .slice none 0 0] 128 true) := blk_new_self _ _
  -- the connected sets
  obtain ⟨e, ws1, h8, hl1, rfl, x8, n8, sv, hb8, hq8⟩ := lp_range (F := f47_l1 rn 2000 tv h) (k := 2000) (n := allN g)
    (fun i ws g' => ws = [iv ((i + 1 : Nat) : Int)] ∧ Ext h g' ∧ h1.nx ≤ g'.nx ∧ ∃ sv, g'.blk sb = some (.row [tv, pv, sv, .slice none 0 0] 128 true) ∧ AqR h1.nx g' 3 1 sv (cellsN (setsF g i)))
    (fun e _ g' => e = .exit 0 ∧ Ext h g' ∧ h1.nx ≤ g'.nx ∧ ∃ sv, g'.blk sb = some (.row [tv, pv, sv, .slice none 0 0] 128 true) ∧ AqR h1.nx g' 3 1 sv (cellsN (setsF g (allN g))))
    (by
      rintro i ws g1 hi ⟨rfl, xg, ng, sv, hb, hap⟩
      have hsg := hs.ext xg
      have c57 := fun (K : Value → H → Option (Ex × List Value × H)) => calls_eq (K := K) (xs := [tv]) (s57 hg hsg)
      have c87 := fun (K : Value → H → Option (Ex × List Value × H)) => calls_eq (K := K) (xs := [tv, iv ((i + 1 : Nat) : Int)]) (s87 hg hsg (W := i + 1) (by omega))
      have hadd : add .i64 ((i + 1 : Nat) : Int) 1 = ((i + 1 + 1 : Nat) : Int) := by rw [add64 (by omega) (by omega)]; omega
      have hcl := setsF_len g i
      have hstep : setsF g (i + 1) = if conQ g (i + 1) = true then setsF g i ++ [i + 1] else setsF g i := by
        unfold setsF
        rw [List.range_succ, List.map_append, List.filter_append]
        by_cases hc : conQ g (i + 1) = true
        · rw [if_pos hc]; simp [hc]
        · rw [if_neg hc]; simp [hc]
      by_cases hc : conQ g (i + 1) = true
      · obtain ⟨v2, g2, e2, a2, n2, k2, b2, hb2, hb2'⟩ := hap.push app22 app22 (bls22 ((i + 1 : Nat) : Int)) rfl rfl (by simp only [List.length_map]; omega) ng
        have hsbk : g2.blk sb = some (.row [tv, pv, sv, .slice none 0 0] 128 true) := (k2 sb (show h.nx < g1.nx from (by have : h1.nx = h.nx + 1 := rfl; omega)) (fun e => by have := (hap.blkOf e).1; have : h1.nx = h.nx + 1 := rfl; have : sb = h.nx := rfl; omega)).trans hb
        have hb2q := a2.blkOf hb2
        have hne : b2 ≠ sb := by have : h1.nx = h.nx + 1 := rfl; have : sb = h.nx := rfl; omega
        have hw : wrc 1 g2 sb 2 v2 = some (g2.set sb (.row [tv, pv, v2, .slice none 0 0] 128 true)) := by rw [wrc_one hsbk a2.cells.1 a2.cells.2 (by simp)]; rfl
        refine ⟨.normal, _, g2.set sb (.row [tv, pv, v2, .slice none 0 0] 128 true), ?_, .inl ⟨rfl, rfl, ⟨by have := xg.nx; rw [nx_set]; omega, fun b hb' => ?_⟩, by rw [nx_set]; omega, v2, blk_set_self _ _ _, ?_⟩⟩
        · unfold f47_l1
          rw [c57, asI_int, show gv [iv ((i + 1 : Nat) : Int)] 0 = iv ((i + 1 : Nat) : Int) from rfl, asI_int, show AM.le ((i + 1 : Nat) : Int) ((allN g : Nat) : Int) = true from decide_eq_true (by omega), ifB_true, c87, asB_bool]
          rw [show (decide (i + 1 ≠ 0) && connS g (i + 1)) = true from hc, ifB_true, d22, show AM.off 0 2 = 2 from rfl, nx_eq, cell_of hb, show [tv, pv, sv, Value.slice none 0 0][2]? = some sv from rfl, Option.bind_some, e2, w22]
          rw [show wrc 1 g2 h.nx 2 v2 = some (g2.set sb (.row [tv, pv, v2, .slice none 0 0] 128 true)) from hw, Option.bind_some, asI_int, hadd]
          rfl
        · have h3 : sb = h.nx := rfl
          rw [blk_set_ne _ _ _ (by omega), k2 b (by have := xg.nx; omega) (fun e => by have := (hap.blkOf e).1; have : h1.nx = h.nx + 1 := rfl; omega)]
          exact xg.blk b hb'
        · rw [hstep, if_pos hc]
          have : cellsN (setsF g i ++ [i + 1]) = cellsN (setsF g i) ++ [[iv ((i + 1 : Nat) : Int)]] := by simp
          rw [this]
          exact a2.keep (Nat.le_refl _) fun b hb => blk_set_ne _ _ _ (fun e => by rw [hb2] at hb; cases hb; exact hne e)
      · refine ⟨.normal, _, g1, ?_, .inl ⟨rfl, rfl, xg, ng, sv, hb, by rw [hstep, if_neg hc]; exact hap⟩⟩
        unfold f47_l1
        rw [c57, asI_int, show gv [iv ((i + 1 : Nat) : Int)] 0 = iv ((i + 1 : Nat) : Int) from rfl, asI_int, show AM.le ((i + 1 : Nat) : Int) ((allN g : Nat) : Int) = true from decide_eq_true (by omega), ifB_true, c87, asB_bool]
        rw [show (decide (i + 1 ≠ 0) && connS g (i + 1)) = false from (by simpa [conQ] using hc), ifB_false, asI_int, hadd]
        rfl)
    (by
      rintro ws g1 ⟨rfl, xg, ng, sv, hb, hap⟩
      have c57 := fun (K : Value → H → Option (Ex × List Value × H)) => calls_eq (K := K) (xs := [tv]) (s57 hg (hs.ext xg))
      refine ⟨.exit 0, [iv ((allN g + 1 : Nat) : Int)], g1, ?_, by simp, rfl, xg, ng, sv, hb, hap⟩
      unfold f47_l1
      rw [c57, asI_int, show gv [iv ((allN g + 1 : Nat) : Int)] 0 = iv ((allN g + 1 : Nat) : Int) from rfl, asI_int, show AM.le ((allN g + 1 : Nat) : Int) ((allN g : Nat) : Int) = false from decide_eq_false (by omega), ifB_false]
      rfl)
    (ws := [iv 1]) (h := h1) (by omega) ⟨rfl, x1, Nat.le_refl _, .slice none 0 0, hb1, .nil⟩
  have hn1 : h1.nx = h.nx + 1 := rfl
  have hsbd : sb = h.nx := rfl
  have ms0 : MS h8.nx tv pv sv g pat (setsF g (allN g)) sb [] (.slice none 0 0) h8 := by
    refine ⟨Nat.le_refl _, hs.ext x8, hps.ext x8, hq8.slR, fun b hb => ?_, fun b hb => ?_, fun b hb => ?_, ⟨by omega, hb8⟩, .nil⟩
    · have := hbel hs hb; omega
    · have := hbel hps hb; omega
    · have := hq8.blkOf hb; omega
  have hsx : ∀ x ∈ setsF g (allN g), x < 2 ^ g.length ∧ 0 < pop x := fun x hx => by
    obtain ⟨q1, q2, _⟩ := setsF_mem.1 hx
    exact ⟨by omega, pop_pos (by omega) (by omega)⟩
  have hsl := setsF_len g (allN g)
  have htl2 : ∀ {T : Type} (K : Int → Option T), len tv K = K (g.length : Int) := fun K => by rw [hs.len]; simp
  have hpl2 : ∀ {T : Type} (K : Int → Option T), len pv K = K (pat.length : Int) := fun K => by rw [hps.len]; simp
  -- the search, size by size
  obtain ⟨e2, ws2, h9, hl2, mv, fo, hq⟩ := lp_range (F := f47_l2 rn 2000 tv h) (k := 2000) (n := g.length + 1 - pat.length)
    (fun i ws g' => ws = [.slice none 0 0, iv ((pat.length + i : Nat) : Int)] ∧ (∃ mv, FO sb h8 (.slice none 0 0) g' mv ∧ MS h8.nx tv pv sv g pat (setsF g (allN g)) sb [] mv g') ∧ ∀ size, pat.length ≤ size → size < pat.length + i → ∀ Ms, ¬ Comp g pat (setsF g (allN g)) Ms [] 0 size)
    (fun e ws g' => ∃ mv, FO sb h8 (.slice none 0 0) g' mv ∧ ((e = .ret ∧ ∃ w, ws = [mv, w] ∧ ∃ L : List Nat, L.length = pat.length ∧ SlR g' 3 1 mv (cellsN L)) ∨ (e = .exit 2 ∧ ∀ size, pat.length ≤ size → size ≤ g.length → ∀ Ms, ¬ Comp g pat (setsF g (allN g)) Ms [] 0 size)))
    (by
      rintro i ws g1 hi ⟨rfl, ⟨mv, fo, o⟩, hno⟩
      obtain ⟨g2, r, mv2, e2, fo2, q⟩ := s88 hg hpat hsx (by omega) pat.length [] mv 0 (pat.length + i) g1 (by simp) (Nat.two_pow_pos _) (by omega) (by simp) o
      have hadd : add .i64 ((pat.length + i : Nat) : Int) 1 = ((pat.length + (i + 1) : Nat) : Int) := by rw [add64 (by omega) (by omega)]; omega
      have head : f47_l2 rn 2000 tv h [.slice none 0 0, iv ((pat.length + i : Nat) : Int)] g1 = ifB r (ld Tryd.prog g2 22 sb 3 fun v9 => out .ret [v9, iv ((pat.length + i : Nat) : Int)] g2) (out .normal [.slice none 0 0, iv ((pat.length + (i + 1) : Nat) : Int)] g2) := by
        unfold f47_l2
        rw [htl2, show gv [Value.slice none 0 0, iv ((pat.length + i : Nat) : Int)] 1 = iv ((pat.length + i : Nat) : Int) from rfl, show gv [Value.slice none 0 0, iv ((pat.length + i : Nat) : Int)] 0 = .slice none 0 0 from rfl, asI_int, show AM.le ((pat.length + i : Nat) : Int) (g.length : Int) = true from decide_eq_true (by omega), ifB_true]
        refine (calls_eq (xs := [pt sb 0, iv (0 : Nat), iv ((pat.length + i : Nat) : Int)]) e2).trans ?_
        rw [asB_bool, asI_int, hadd]
        rfl
      rw [head]
      rcases q with ⟨rfl, L, hL, o2⟩ | ⟨rfl, hm, o2⟩
      · refine ⟨.ret, [mv2, iv ((pat.length + i : Nat) : Int)], g2, ?_, .inr ⟨by simp, mv2, fo.trans fo2, .inl ⟨rfl, _, rfl, L, hL, o2.mq.slR⟩⟩⟩
        rw [ifB_true, d22, o2.c3, Option.bind_some]; rfl
      · refine ⟨.normal, _, g2, by rw [ifB_false]; rfl, .inl ⟨rfl, rfl, ⟨mv2, fo.trans fo2, o2⟩, fun size h1 h2 Ms hc => ?_⟩⟩
        by_cases hlt : size < pat.length + i
        · exact hno size h1 hlt Ms hc
        · have : size = pat.length + i := by omega
          subst this
          exact hm Ms hc)
    (by
      rintro ws g1 ⟨rfl, ⟨mv, fo, o⟩, hno⟩
      refine ⟨.exit 2, [.slice none 0 0, iv ((pat.length + (g.length + 1 - pat.length) : Nat) : Int)], g1, ?_, by simp, mv, fo, .inr ⟨rfl, fun size h1 h2 => hno size h1 (by omega)⟩⟩
      unfold f47_l2
      rw [htl2, show gv [Value.slice none 0 0, iv ((pat.length + (g.length + 1 - pat.length) : Nat) : Int)] 1 = iv ((pat.length + (g.length + 1 - pat.length) : Nat) : Int) from rfl, asI_int, show AM.le ((pat.length + (g.length + 1 - pat.length) : Nat) : Int) (g.length : Int) = false from decide_eq_false (by omega), ifB_false]
      rfl)
    (ws := [.slice none 0 0, iv pat.length]) (h := h8) (by omega) ⟨rfl, ⟨_, .refl _ _ _, ms0⟩, fun size h1 h2 => by omega⟩
  have x9 : Ext h h9 := ⟨by have := x8.nx; have := fo.nx; omega, fun b hb => by
    rw [fo.fr b (by have := x8.nx; omega) (by omega) (by intro h; cases h)]
    exact x8.blk b hb⟩
  have head : f47 rn 2000 tv pv h = onE e2 2 (some ((.slice none 0 0), h9)) (onR e2 (some (gv ws2 0, h9))) := by
    unfold f47
    rw [htv, hpv, kbld128]
    rw [bx_eq, show (Value.agg #[Value.slice ta tn tc, Value.slice pa pn pc, Value.slice none 0 0, Value.slice none 0 0]).cells.toList = [Value.slice ta tn tc, Value.slice pa pn pc, Value.slice none 0 0, Value.slice none 0 0] from rfl, ← htv, ← hpv, show h.new (.row [tv, pv, .slice none 0 0, .slice none 0 0] 128 true) = h1 from rfl]
    rw [lp_eq hl1, onE_exit, if_pos rfl, hpl2, lp_eq hl2]
  rcases hq with ⟨rfl, w, rfl, L, hL, hsl9⟩ | ⟨rfl, hno⟩
  · have hmv : ∃ b o n c, mv = .slice (some ⟨b, o, none⟩) n c := by
      generalize hC : cellsN L = C at hsl9
      cases hsl9 with
      | nil => cases L with
        | nil => simp at hL; omega
        | cons a t => cases hC
      | at_ hb hr hk hc hl hx => exact ⟨_, _, _, _, rfl⟩
    obtain ⟨b, o, n, c, rfl⟩ := hmv
    obtain ⟨h6, e6, m6, w6⟩ := x47 (k := 2000) (v0 := tv) (v1 := pv) (h := h) (h1 := h9) (v := .slice (some ⟨b, o, none⟩) n c) (by
      rw [head, onE_ret, onR_ret]; rfl) rfl
    exact ⟨_, h6, e6, w6 x9, .inl ⟨_, _, _, _, rfl⟩⟩
  · obtain ⟨h6, e6, m6, w6⟩ := x47 (k := 2000) (v0 := tv) (v1 := pv) (h := h) (h1 := h9) (v := .slice none 0 0) (by
      rw [head, onE_exit, if_pos rfl]) rfl
    exact ⟨_, h6, e6, w6 x9, .inr ⟨rfl, hno⟩⟩

/-! ### K(4) in a graph -/
theorem k4_fit {g M : List Nat} {S : Nat} (hM : M.length < 4) (h : ∀ j, j < M.length → M.getD j 0 &&& arN g S ≠ 0) : fitsB g k4 M S = true := by
  unfold fitsB
  rw [List.all_eq_true]
  intro j hj
  have h1 : nb k4 M.length &&& (2 ^ M.length - 1) < 1024 := by
    have : nb k4 M.length < 1024 := by
      have : ∀ a, a < 4 → nb k4 a < 1024 := by decide
      exact this _ hM
    exact Nat.lt_of_le_of_lt Nat.and_le_left this
  rw [mem_elts h1, Nat.testBit_and, Bool.and_eq_true, Nat.testBit_two_pow_sub_one, decide_eq_true_iff] at hj
  exact decide_eq_true (h j hj.2)

theorem tch_ne {g : List Nat} {A B : Nat} (hg : GrN g) (hB : B < 1024) (h : Tch g A B) : A &&& arN g B ≠ 0 := by
  obtain ⟨x, y, hx, hy, hxy⟩ := h
  intro hz
  have : (A &&& arN g B).testBit x = true := by
    rw [Nat.testBit_and, hx, Bool.true_and, arN_bit hB]
    exact ⟨y, hy, by rw [hg.sym]; exact hxy⟩
  rw [hz] at this
  simp at this

theorem and_or_zero {a b c : Nat} (h1 : a &&& b = 0) (h2 : a &&& c = 0) : a &&& (b ||| c) = 0 := by
  rw [Nat.and_or_distrib_left, h1, h2]; rfl

theorem k4_comp {g : List Nat} (hg : GrN g) (h4 : 4 ≤ g.length) (hb : Bi g (allN g)) (hp : ∀ a b, a ≠ b → Conn g (del2 (allN g) a b)) :
    ∃ size, 4 ≤ size ∧ size ≤ g.length ∧ ∃ Ms, Comp g k4 (setsF g (allN g)) Ms [] 0 size := by
  have hlen := hg.len
  have hpow := hg.pow
  obtain ⟨A, B, C, D, lA, lB, lC, lD, zA, zB, zC, zD, cA, cB, cC, cD, ab, ac, ad, bc, bd, cd, tab, tac, tad, tbc, tbd, tcd⟩ := k4_sets hg h4 hb hp
  have mem : ∀ {S}, S < 2 ^ g.length → S ≠ 0 → Conn g S → S ∈ setsF g (allN g) := fun {S} h1 h2 h3 => by
    refine setsF_mem.2 ⟨by omega, ?_, (conn_iff hg h1).2 h3⟩
    unfold allN; omega
  have pA := pop_pos (show A < 1024 by omega) zA
  have pB := pop_pos (show B < 1024 by omega) zB
  have pC := pop_pos (show C < 1024 by omega) zC
  have pD := pop_pos (show D < 1024 by omega) zD
  have hsum : pop A + pop B + pop C + pop D ≤ g.length := by
    have nd : (elts A ++ (elts B ++ (elts C ++ elts D))).Nodup := by
      have dj : ∀ {X Y : Nat}, X < 1024 → Y < 1024 → X &&& Y = 0 → ∀ x ∈ elts X, ∀ y ∈ elts Y, x ≠ y := by
        intro X Y hX hY h x hx y hy e
        subst e
        have : (X &&& Y).testBit x = true := by rw [Nat.testBit_and, (mem_elts hX).1 hx, (mem_elts hY).1 hy]; rfl
        rw [h] at this; simp at this
      rw [List.nodup_append, List.nodup_append, List.nodup_append]
      refine ⟨elts_nodup A, ⟨elts_nodup B, ⟨elts_nodup C, elts_nodup D, dj (by omega) (by omega) cd⟩, fun x hx y hy => ?_⟩, fun x hx y hy => ?_⟩
      · rcases List.mem_append.1 hy with hy | hy
        · exact dj (by omega) (by omega) bc x hx y hy
        · exact dj (by omega) (by omega) bd x hx y hy
      · rcases List.mem_append.1 hy with hy | hy
        · exact dj (by omega) (by omega) ab x hx y hy
        · rcases List.mem_append.1 hy with hy | hy
          · exact dj (by omega) (by omega) ac x hx y hy
          · exact dj (by omega) (by omega) ad x hx y hy
    have := len_sub (m := List.range g.length) nd fun x hx => by
      rw [List.mem_range]
      simp only [List.mem_append] at hx
      rcases hx with hx | hx | hx | hx
      · exact bit_lt lA ((mem_elts (by omega)).1 hx)
      · exact bit_lt lB ((mem_elts (by omega)).1 hx)
      · exact bit_lt lC ((mem_elts (by omega)).1 hx)
      · exact bit_lt lD ((mem_elts (by omega)).1 hx)
    simp only [List.length_append, elts_len, List.length_range] at this
    omega
  have sym : ∀ {X Y : Nat}, X &&& Y = 0 → Y &&& X = 0 := fun h => by rw [Nat.and_comm]; exact h
  refine ⟨pop A + pop B + pop C + pop D, by omega, hsum, [A, B, C, D], ⟨by decide, mem lA zA cA, by simp, k4_fit (by simp) (fun j hj => by simp at hj), by omega, ?_⟩⟩
  refine ⟨by simp [k4], mem lB zB cB, ?_, k4_fit (by simp) (fun j hj => ?_), by omega, ?_⟩
  · rw [Nat.zero_or]; exact sym ab
  · obtain rfl : j = 0 := by simp at hj; exact hj
    exact tch_ne hg (by omega) tab
  refine ⟨by simp [k4], mem lC zC cC, ?_, k4_fit (by simp) (fun j hj => ?_), by omega, ?_⟩
  · rw [Nat.zero_or]; exact and_or_zero (sym ac) (sym bc)
  · have : j = 0 ∨ j = 1 := by simp at hj; omega
    rcases this with rfl | rfl
    · exact tch_ne hg (by omega) tac
    · exact tch_ne hg (by omega) tbc
  refine ⟨by simp [k4], mem lD zD cD, ?_, k4_fit (by simp) (fun j hj => ?_), by omega, by simp [k4], by omega⟩
  · rw [Nat.zero_or]; exact and_or_zero (and_or_zero (sym ad) (sym bd)) (sym cd)
  · have : j = 0 ∨ j = 1 ∨ j = 2 := by simp at hj; omega
    rcases this with rfl | rfl | rfl
    · exact tch_ne hg (by omega) tad
    · exact tch_ne hg (by omega) tbd
    · exact tch_ne hg (by omega) tcd

/-- Model, of K(4). -/
theorem s19 {v pv : Value} {g : List Nat} {h : H} (hg : GrN g) (h8 : g.length ≤ 8) (hs : SlR h 3 1 v (cellsN g)) (hps : SlR h 3 1 pv (cellsN k4)) (h4 : 4 ≤ g.length) (hb : Bi g (allN g)) (hp : ∀ a b, a ≠ b → Conn g (del2 (allN g) a b)) :
    ∃ v' h', rn 19 #[v, pv] h = some (.tuple #[v', iv 0], h') ∧ Exw h h' := by
  have hval : valid8 (g.map Int.ofNat) = true := by unfold valid8; rw [valid_of hg]; simp [h8]
  have hval6 : valid6 (k4.map Int.ofNat) = true := by unfold valid6; rw [valid_of k4_gr]; rfl
  have e46 := s46 (v := v) (l := g.map Int.ofNat) (h := h) (by rw [cellsN_eq]; exact hs)
  rw [if_pos hval] at e46
  have e46b := s46_6 (v := pv) (l := k4.map Int.ofNat) (h := h) (by rw [cellsN_eq]; exact hps)
  rw [if_pos hval6] at e46b
  obtain ⟨v', h1, e47, x1, q⟩ := s47 hg.toGrB hg.pos k4_gr.toGrB (by decide) hs hps
  obtain ⟨b, o, n, c, rfl⟩ : ∃ b o n c, v' = .slice (some ⟨b, o, none⟩) n c := by
    rcases q with q | ⟨_, hno⟩
    · exact q
    · obtain ⟨size, q1, q2, Ms, hc⟩ := k4_comp hg h4 hb hp
      exact absurd hc (hno size q1 q2 Ms)
  obtain ⟨h6, e6, m6, w6⟩ := x19 (k := 0) (v0 := v) (v1 := pv) (h := h) (h1 := h1) (v := .tuple #[.slice (some ⟨b, o, none⟩) n c, iv 0]) (by
    unfold f19
    rw [calls_eq (xs := [v, iv 8]) e46, ext20, ext21, asB_bool, calls_eq (xs := [pv, iv 6]) e46b, ext20, ext21, asB_bool, show (!true) = false from rfl, ifB_false, ifB_false, calls_eq (xs := [v, pv]) e47]
    unfold eqv
    rw [some22]
    rfl) rfl
  exact ⟨_, h6, e6, w6 x1.toExt⟩

end Go.AM

end

section

/- Reduce. -/
namespace Go.AM
open Go.Proofs
variable {k : Nat} {R : Type}
attribute [local simp] eq lt le
theorem some84 (b o n c : Nat) : binOp Tryd.prog .eql 84 (.slice (some ⟨b, o, none⟩) n c) (.slice none 0 0) = some (.bool false) := by kernel_rfl

theorem bls84e (h : H) : buildSlice Tryd.prog 84 0 [] h = some (.slice (some ⟨h.nx, 0, none⟩) 0 0, h.new (.row [] 3 true)) := by kernel_rfl

theorem app39 : okApp Tryd.prog 39 95 4 = true := by kernel_rfl

theorem bls39 (a b c d : Int) (h : H) : buildSlice Tryd.prog 39 1 [(0, .agg #[iv a, iv b, iv c, iv d])] h = some (.slice (some ⟨h.nx, 0, none⟩) 1 1, h.new (.row [iv a, iv b, iv c, iv d] 95 true)) := by kernel_rfl

theorem kbld95 (a b c d : Int) (K : Value → Option R) : bld Tryd.prog 95 [(0, .int .i64 a), (1, .int .i64 b), (2, .int .i64 c), (3, .int .i64 d)] K = K (.agg #[iv a, iv b, iv c, iv d]) := bld_some (by kernel_rfl)

theorem kbld92 (a : Option Addr) (n c : Nat) (x : Int) (K : Value → Option R) : bld Tryd.prog 92 [(0, .slice a n c), (1, .int .i64 x)] K = K (.agg #[.slice a n c, iv x]) := bld_some (by kernel_rfl)

theorem s89 {v : Value} {g : List Nat} {h : H} (hs : SlR h 3 1 v (cellsN g)) (hg : g ≠ []) (hm : g.length < 1000) : ∃ v' h' b, rn 89 #[v] h = some (v', h') ∧ Exw h h' ∧ h.nx ≤ b ∧ NA h' b v' g := by
  obtain ⟨v', h', b, e, x, hb, hia, _⟩ := copy_ia app84 bls84e hs hg hm
  have hv : ∃ b o n c, v = .slice (some ⟨b, o, none⟩) n c := by
    generalize hC : cellsN g = C at hs
    cases hs with
    | nil => cases g with
      | nil => exact absurd rfl hg
      | cons a t => cases hC
    | at_ hb hr hk hc hl hx => exact ⟨_, _, _, _, rfl⟩
  obtain ⟨vb, vo, vn, vc, rfl⟩ := hv
  obtain ⟨h2, e2, m2, w2⟩ := x89 (k := 0) (v0 := .slice (some ⟨vb, vo, none⟩) vn vc) (h := h) (h1 := h') (v := v') (by
    unfold f89 eqv
    rw [some84]
    simp only []
    rw [ifB_false]
    exact e _) hia.slR.notR
  exact ⟨v', h2, b, e2, w2 x, hb, IA.ext hia m2.ext⟩

/-- A town that is being reduced. -/
structure RS (rb gb : Nat) (tv : Value) (G : List Nat) (left : Nat) (h : H) : Prop where
  lt : rb < h.nx
  row : h.blk rb = some (.row [tv, iv left] 92 true)
  na : NA h gb tv G

theorem RS.ext {rb gb : Nat} {tv : Value} {G : List Nat} {left : Nat} {h h' : H} (s : RS rb gb tv G left h) (x : Ext h h') : RS rb gb tv G left h' :=
  ⟨Nat.lt_of_lt_of_le s.lt x.nx, (x.blk _ s.lt).trans s.row, IA.ext s.na x⟩

theorem RS.ne {rb gb : Nat} {tv : Value} {G : List Nat} {left : Nat} {h : H} (s : RS rb gb tv G left h) : rb ≠ gb := by
  rintro rfl
  have := s.na.row
  rw [s.row] at this
  simp at this

theorem s48 {v : Value} {g : List Nat} {h : H} (hg : GrN g) (hs : SlR h 3 1 v (cellsN g)) : ∃ rb gb tv h', rn 48 #[v] h = some (pt rb 0, h') ∧ Exw h h' ∧ h.nx ≤ rb ∧ h.nx ≤ gb ∧ RS rb gb tv g (allN g) h' := by
  have hlen := hg.len
  have hpos := hg.pos
  obtain ⟨tv, h1, b, e1, x1, hb, na⟩ := s89 hs (by rintro rfl; simp at hpos) (by omega)
  have e2 := s57 hg.toGrB (hs.ext x1.toExt)
  obtain ⟨a, n, c, htv⟩ := na.slR.isSl
  have hbn := na.lt
  have x2 := Ext.new h1 (.row [tv, iv (allN g : Nat)] 92 true)
  have rs : RS h1.nx b tv g (allN g) (h1.new (.row [tv, iv (allN g : Nat)] 92 true)) := ⟨Nat.lt_succ_self _, blk_new_self _ _, IA.ext na x2⟩
  obtain ⟨h3, e3, m3, w3⟩ := x48 (k := 0) (v0 := v) (h := h) (h1 := h1.new (.row [tv, iv (allN g : Nat)] 92 true)) (v := pt h1.nx 0) (by
    unfold f48
    rw [calls_eq (xs := [v]) e1, calls_eq (xs := [v]) e2, asI_int, htv, kbld92, bx_eq, ← htv]
    rw [show (Value.agg #[tv, iv (allN g : Nat)]).cells.toList = [tv, iv (allN g : Nat)] from rfl]
    rfl) rfl
  exact ⟨h1.nx, b, tv, h3, e3, w3 (x1.toExt.trans x2), x1.nx, hb, rs.ext m3.ext⟩

/-! ### A step -/
def nearL (G : List Nat) (left v : Nat) : List Nat := elts (nb G v &&& left)

def stepI (L : List Nat) (v : Nat) : List Int := if L.length = 1 then [1, v, (L.getD 0 0 : Nat), -1] else if L.length = 2 then [2, v, (L.getD 0 0 : Nat), (L.getD 1 0 : Nat)] else [L.length, v, -1, -1]

def stepV (L : List Nat) (v : Nat) : Value := .agg ((stepI L v).map iv).toArray

theorem stepI_len (L : List Nat) (v : Nat) : ∃ a b c d, stepI L v = [a, b, c, d] ∧ a = L.length ∧ b = v ∧ (L.length = 2 → c = (L.getD 0 0 : Nat) ∧ d = (L.getD 1 0 : Nat)) := by
  unfold stepI
  by_cases h1 : L.length = 1
  · rw [if_pos h1]; exact ⟨_, _, _, _, rfl, by omega, rfl, fun h => by omega⟩
  · rw [if_neg h1]
    by_cases h2 : L.length = 2
    · rw [if_pos h2]; exact ⟨_, _, _, _, rfl, by omega, rfl, fun _ => ⟨rfl, rfl⟩⟩
    · rw [if_neg h2]; exact ⟨_, _, _, _, rfl, rfl, rfl, fun h => absurd h h2⟩

theorem wrc_row {c xs : List Value} {n e b : Nat} {h : H} (hb : h.blk b = some (.row c e true)) (hx : xs.length = n) (hc : c.length = n) (hs : xs.all scal = true) : wrc n h b 0 (.agg xs.toArray) = some (h.set b (.row xs e true)) := by
  unfold wrc
  rw [hb]
  have h1 : (Value.agg xs.toArray).cells = xs.toArray := rfl
  simp only [h1]
  have h2 : setAt c 0 xs = xs := by
    have := setAt_mid xs [] c [] (by omega)
    simpa using this
  simp only [List.size_toArray, h2, List.toList_toArray]
  rw [if_pos ⟨by omega, by omega, hs⟩]

theorem s50 {rb gb : Nat} {tv : Value} {G : List Nat} {left v : Nat} {h : H} (s : RS rb gb tv G left h) (hv : v < G.length) (hG : ∀ x ∈ G, x < 1024) (hleft : left < 1024) (hv10 : v < 10) :
    rn 50 #[pt rb 0, iv v] h = some (.tuple #[stepV (nearL G left v) v, .bool (decide ((nearL G left v).length ≤ 2))], h) := by
  let z4 : List Value := [iv 0, iv 0, iv 0, iv 0]
  let h1 := h.new (.row z4 95 true)
  have x1 : Ext h h1 := Ext.new h _
  have s1 := s.ext x1
  have hnbm : nb G v ∈ G := by
    unfold nb
    rw [List.getD_eq_getElem?_getD, List.getElem?_eq_getElem hv]
    exact List.getElem_mem hv
  have hnb := hG _ hnbm
  have hmask : nb G v &&& left < 1024 := Nat.lt_of_le_of_lt Nat.and_le_left hnb
  obtain ⟨nv, h2, e49, x2, hn2, hq2⟩ := s49 hmask h1
  have hll : (nearL G left v).length ≤ 10 := by unfold nearL; rw [elts_len]; exact pop_le_n (Nat.le_refl 10) hmask
  rw [show elts (nb G v &&& left) = nearL G left v from rfl] at hn2
  generalize hL : nearL G left v = L at *
  have hnl : ∀ {T : Type} (K : Int → Option T), len nv K = K (L.length : Int) := fun K => by rw [hn2.len]; simp
  have hand : AM.and .i64 ((nb G v : Nat) : Int) (left : Int) = ((nb G v &&& left : Nat) : Int) := and_nat (by omega) (by omega)
  have gt : ∀ (K : Value → Option (Value × H)), (six tv (v : Int) 1 fun b o => (h1.cell b o).bind K) = K (iv (nb G v : Nat)) := fun K => getN s1.na.slR hv K
  -- the answer's own row
  let r0 : List Value := [iv (L.length : Nat), iv v, iv (-1), iv (-1)]
  let h4 := h2.fresh 95 z4 r0
  have x4 : Ext h2 h4 := (Ext.refl h2).fresh 95 _ _
  have b4 : h4.blk h2.nx = some (.row r0 95 true) := blk_fresh _ _ _ _
  have hn1 : h1.nx = h.nx + 1 := rfl
  have x2n := x2.nx
  have b0 : h4.blk h.nx = some (.row z4 95 true) := (x4.blk _ (by omega)).trans ((x2.blk _ (by omega)).trans (blk_new_self _ _))
  have x04 : Ext h h4 := (x1.trans x2.toExt).trans x4
  have h4n : h4.nx = h2.nx + 1 := rfl
  -- its copy into the result
  have fin : ∀ (h5 : H) (xs : List Value), Ext h h5 → h5.nx = h4.nx → h5.blk h2.nx = some (.row xs 95 true) → xs.length = 4 → xs.all scal = true → h5.blk h.nx = some (.row z4 95 true) → ∃ h6, Ext h h6 ∧
      (ld Tryd.prog h5 95 h2.nx 0 fun v7 => st Tryd.prog h5 95 h.nx 0 v7 fun h6 => ld Tryd.prog h6 95 h.nx 0 fun v8 => some (Value.tuple #[v8, Value.bool (le (L.length : Int) 2)], h6)) = some (Value.tuple #[.agg xs.toArray, .bool (decide (L.length ≤ 2))], h6) := by
    intro h5 xs x5 hn5 hb hx hsc hb0
    have hle : AM.le (L.length : Int) 2 = decide (L.length ≤ 2) := by unfold AM.le; rw [decide_eq_decide]; omega
    refine ⟨h5.set h.nx (.row xs 95 true), ⟨by rw [nx_set]; exact x5.nx, fun b hb' => by rw [blk_set_ne _ _ _ (by omega)]; exact x5.blk b hb'⟩, ?_⟩
    rw [d95, rd_all hb hx, Option.bind_some, w95, wrc_row hb0 hx rfl hsc, Option.bind_some, d95, rd_all (blk_set_self _ _ _) hx, Option.bind_some, hle]
  have e0 : ∀ {i x : Nat}, L[i]? = some x → ∃ b o, b < h2.nx ∧ (h4.cell b o = some (iv x)) ∧ ∀ {T : Type} (K : Nat → Nat → Option T), six nv (i : Int) 1 K = K b o := by
    intro i x hx
    obtain ⟨b, o, cs, own, q1, q2, q3, q4, q5, q6⟩ := hn2.six (i := (i : Int)) (by omega) (x := [iv x]) (by simp [hx])
    refine ⟨b, o, q1, ?_, q6⟩
    rw [cell_of ((x4.blk _ q1).trans q2)]
    have := q5 0 (by omega)
    simpa using this
  have start : ∀ (K : Value → H → Option (Value × H)), True := fun _ => trivial
  have hpl : ∀ xs : List Int, xs.length = 4 → plainO (.tuple #[.agg (xs.map iv).toArray, .bool (decide (L.length ≤ 2))]) = true := by
    intro xs hx
    match xs, hx with
    | [a, b, c, d], _ => rfl
  obtain ⟨h6, x6, e6⟩ : ∃ h6, Ext h h6 ∧ f50 rn 0 (pt rb 0) v h = some (.tuple #[stepV L v, .bool (decide (L.length ≤ 2))], h6) := by
    have hal : ∀ (K : H → Option (Value × H)), (al h2 95 [iv 0, iv 0, iv 0, iv 0] fun h3 => st Tryd.prog h3 95 h2.nx 0 (.agg #[iv (L.length : Nat), iv v, iv (-1), iv (-1)]) K) = K h4 := fun K => al_st (P := Tryd.prog) (h := h2) (zs := z4) (xs := r0) (t := 95) (K := K) sz95 rfl rfl
    unfold f50
    rw [al_eq, nil_pt, asP_ptr]
    rw [show h.new (.row [(.int .i64 0), (.int .i64 0), (.int .i64 0), (.int .i64 0)] 95 true) = h1 from rfl]
    simp only [nil_pt, asP_ptr, d3, d84, nx_eq]
    rw [show h1.cell rb 0 = some tv by rw [cell_of s1.row]; rfl, Option.bind_some, gt, asI_int, show AM.off 0 1 = 1 from rfl, show h1.cell rb 1 = some (iv left) by rw [cell_of s1.row]; rfl, Option.bind_some, asI_int, hand, calls_eq (xs := [iv (nb G v &&& left : Nat)]) e49, hnl, kbld95]
    rw [hal, hnl]
    by_cases h1' : L.length = 1
    · obtain ⟨a, ha⟩ : ∃ a, L[0]? = some a := ⟨_, List.getElem?_eq_getElem (by omega)⟩
      obtain ⟨b, o, q1, q2, q3⟩ := e0 ha
      have w5 : wrc 1 h4 h2.nx 2 (iv a) = some (h4.set h2.nx (.row [iv (L.length : Nat), iv v, iv a, iv (-1)] 95 true)) := by rw [wrc_one b4 rfl rfl (by simp [r0])]; rfl
      obtain ⟨h6, x6, e6⟩ := fin (h4.set h2.nx (.row [iv (L.length : Nat), iv v, iv a, iv (-1)] 95 true)) [iv (L.length : Nat), iv v, iv a, iv (-1)] ⟨by rw [nx_set]; exact x04.nx, fun b hb => by rw [blk_set_ne _ _ _ (by omega)]; exact x04.blk b hb⟩ rfl (blk_set_self _ _ _) rfl rfl (by rw [blk_set_ne _ _ _ (by omega)]; exact b0)
      refine ⟨h6, x6, ?_⟩
      have q3' := q3 (T := Value × H)
      rw [show AM.eq (L.length : Int) 1 = true by simp [h1'], ifB_true]
      rw [show ((0 : Nat) : Int) = 0 from rfl] at q3'
      rw [q3', q2, Option.bind_some, asI_int, show AM.off 0 2 = 2 from rfl, w3, w5, Option.bind_some]
      simp only [hnl]
      rw [e6]
      unfold stepV stepI
      rw [if_pos h1', getD_of ha, h1']; rfl
    · rw [show AM.eq (L.length : Int) 1 = false by simp; omega, ifB_false]
      by_cases h2' : L.length = 2
      · obtain ⟨a, ha⟩ : ∃ a, L[0]? = some a := ⟨_, List.getElem?_eq_getElem (by omega)⟩
        obtain ⟨c, hc⟩ : ∃ a, L[1]? = some a := ⟨_, List.getElem?_eq_getElem (by omega)⟩
        obtain ⟨b, o, q1, q2, q3⟩ := e0 ha
        obtain ⟨b', o', p1, p2, p3⟩ := e0 hc
        have w5 : wrc 1 h4 h2.nx 2 (iv a) = some (h4.set h2.nx (.row [iv (L.length : Nat), iv v, iv a, iv (-1)] 95 true)) := by rw [wrc_one b4 rfl rfl (by simp [r0])]; rfl
        have w6 : wrc 1 (h4.set h2.nx (.row [iv (L.length : Nat), iv v, iv a, iv (-1)] 95 true)) h2.nx 3 (iv c) = some ((h4.set h2.nx (.row [iv (L.length : Nat), iv v, iv a, iv (-1)] 95 true)).set h2.nx (.row [iv (L.length : Nat), iv v, iv a, iv c] 95 true)) := by rw [wrc_one (blk_set_self _ _ _) rfl rfl (by simp)]; rfl
        obtain ⟨h6, x6, e6⟩ := fin ((h4.set h2.nx (.row [iv (L.length : Nat), iv v, iv a, iv (-1)] 95 true)).set h2.nx (.row [iv (L.length : Nat), iv v, iv a, iv c] 95 true)) [iv (L.length : Nat), iv v, iv a, iv c] ⟨by rw [nx_set, nx_set]; exact x04.nx, fun b hb => by rw [blk_set_ne _ _ _ (by omega), blk_set_ne _ _ _ (by omega)]; exact x04.blk b hb⟩ rfl (blk_set_self _ _ _) rfl rfl (by rw [blk_set_ne _ _ _ (by omega), blk_set_ne _ _ _ (by omega)]; exact b0)
        refine ⟨h6, x6, ?_⟩
        have q3' := q3 (T := Value × H)
        have p3' := p3 (T := Value × H)
        rw [show AM.eq (L.length : Int) 2 = true by simp [h2'], ifB_true]
        rw [show ((0 : Nat) : Int) = 0 from rfl] at q3'
        rw [show ((1 : Nat) : Int) = 1 from rfl] at p3'
        rw [q3', q2, Option.bind_some, asI_int, p3', p2, Option.bind_some, asI_int, show AM.off 0 2 = 2 from rfl, w3, w5, Option.bind_some]
        rw [show fre b' h4.nx o' 1 h2.nx 2 1 = true by unfold fre; rw [decide_eq_true (by omega), decide_eq_true (.inl (by omega))]; rfl, ck_true, show AM.off 0 3 = 3 from rfl, w3, w6, Option.bind_some]
        simp only [hnl]
        rw [e6]
        unfold stepV stepI
        rw [if_neg h1', if_pos h2', getD_of ha, getD_of hc, h2']; rfl
      · obtain ⟨h6, x6, e6⟩ := fin h4 r0 x04 rfl b4 rfl rfl b0
        refine ⟨h6, x6, ?_⟩
        rw [show AM.eq (L.length : Int) 2 = false by simp; omega, ifB_false]
        simp only [hnl]
        rw [e6]
        unfold stepV stepI
        rw [if_neg h1', if_neg h2']; rfl
  refine p50 (k := 0) (h1 := h6) e6 ?_ x6
  obtain ⟨a, b, c, d, e, _⟩ := stepI_len L v
  unfold stepV
  exact hpl _ (by rw [e]; rfl)

end Go.AM

end

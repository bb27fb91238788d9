/- Laws for reading staged forms. -/
/- Slices of the abstract heap, element by element. -/
import Derived.Test.YthmfjfblndophaaAmSt

namespace Go.AM

abbrev pt (b o : Nat) : Value := .pointer (some ⟨b, o, none⟩)

/-- What is old is as it was. -/
structure Ext (h h' : H) : Prop where
  nx : h.nx ≤ h'.nx
  blk : ∀ b, b < h.nx → h'.blk b = h.blk b

theorem Ext.refl (h : H) : Ext h h := ⟨Nat.le_refl _, fun _ _ => rfl⟩
theorem Ext.trans {h1 h2 h3 : H} (a : Ext h1 h2) (b : Ext h2 h3) : Ext h1 h3 :=
  ⟨Nat.le_trans a.nx b.nx, fun i hi => (b.blk i (Nat.lt_of_lt_of_le hi a.nx)).trans (a.blk i hi)⟩

theorem Ext.new (h : H) (k : Blk) : Ext h (h.new k) := ⟨Nat.le_succ _, fun b hb => by simp [H.new, Nat.ne_of_lt hb]⟩

theorem nx_eq (h : H) : AM.nx h = h.nx := rfl
theorem nx_new (h : H) (k : Blk) : (h.new k).nx = h.nx + 1 := rfl
theorem nx_set (h : H) (b : Nat) (k : Blk) : (h.set b k).nx = h.nx := rfl
theorem nx_kill (h : H) (b : Nat) : (h.kill b).nx = h.nx := rfl
theorem wr_new (h : H) (k : Blk) : (h.new k).wr = h.wr := rfl
theorem blk_new_self (h : H) (k : Blk) : (h.new k).blk h.nx = some k := by simp [H.new]
theorem blk_new_ne (h : H) (k : Blk) {b : Nat} (hb : b ≠ h.nx) : (h.new k).blk b = h.blk b := by simp [H.new, hb]
theorem blk_new_at (h : H) (k : Blk) {b : Nat} (hb : b = h.nx) : (h.new k).blk b = some k := by simp [H.new, hb]
theorem blk_set_self (h : H) (b : Nat) (k : Blk) : (h.set b k).blk b = some k := by simp [H.set]
theorem blk_set_ne (h : H) (b : Nat) (k : Blk) {i : Nat} (hb : i ≠ b) : (h.set b k).blk i = h.blk i := by simp [H.set, hb]
theorem blk_kill_ne (h : H) (b : Nat) {i : Nat} (hb : i ≠ b) : (h.kill b).blk i = h.blk i := by simp [H.kill, hb]

theorem Ext.set {h h' : H} (e : Ext h h') {b : Nat} (hb : h.nx ≤ b) (k : Blk) : Ext h (h'.set b k) :=
  ⟨e.nx, fun i hi => by rw [blk_set_ne _ _ _ (by omega)]; exact e.blk i hi⟩
theorem Ext.kill {h h' : H} (e : Ext h h') {b : Nat} (hb : h.nx ≤ b) : Ext h (h'.kill b) :=
  ⟨e.nx, fun i hi => by rw [blk_kill_ne _ _ (by omega)]; exact e.blk i hi⟩
theorem Ext.new' {h h' : H} (e : Ext h h') (k : Blk) : Ext h (h'.new k) := e.trans (.new _ _)

section
variable {P : Program} {rec : Rec} {k : Nat} {R : Type}

theorem al_eq (h : H) (t : TypeId) (cs : List Value) (K : H → Option R) : al h t cs K = K (h.new (.row cs t true)) := rfl
theorem bx_eq (h : H) (t : TypeId) (v : Value) (K : H → Option R) : bx h t v K = K (h.new (.row v.cells.toList t true)) := rfl
theorem mkm_eq (h : H) (K : H → Option R) : mkm h K = K (h.new (.mp [] 0)) := rfl
theorem asI_int (k : IntKind) (n : Int) (K : Int → Option R) : asI k (.int k n) K = K n := by simp [asI]
theorem asK_int (k : IntKind) (n : Int) (K : Int → Option R) : asK (.int k n) K = K n := rfl
theorem asB_bool (b : Bool) (K : Bool → Option R) : asB (.bool b) K = K b := rfl
theorem asP_ptr (b o : Nat) (K : Nat → Nat → Option R) : asP (.pointer (some ⟨b, o, none⟩)) K = K b o := rfl
theorem ifB_true (x y : Option R) : ifB true x y = x := rfl
theorem ifB_false (x y : Option R) : ifB false x y = y := rfl
theorem ck_true (x : Option R) : ck true x = x := rfl
theorem nz_ne {b : Int} (h : b ≠ 0) (x : Option R) : nz b x = x := by simp [nz, h]
theorem nn_ge {b : Int} (h : 0 ≤ b) (x : Option R) : nn b x = x := by simp [nn, Int.not_lt.2 h]
theorem len_slice (b : Option Addr) (n c : Nat) (K : Int → Option R) : len (.slice b n c) K = K n := rfl
theorem ext_at (vs : Array Value) (i : Nat) {v : Value} (h : vs[i]? = some v) (K : Value → Option R) : ext (.tuple vs) i K = K v := by simp [ext, h]
theorem ext20 (a b : Value) (K : Value → Option R) : ext (.tuple #[a, b]) 0 K = K a := rfl
theorem ext21 (a b : Value) (K : Value → Option R) : ext (.tuple #[a, b]) 1 K = K b := rfl
theorem onE_exit (i j : Nat) (x y : Option R) : onE (.exit i) j x y = if i = j then x else y := rfl
theorem onE_ret (j : Nat) (x y : Option R) : onE .ret j x y = y := rfl
theorem onR_ret (x : Option R) : onR .ret x = x := rfl

theorem ld_sc {h : H} {t : TypeId} {b o : Nat} {K : Value → Option R} {c : List Value} {e : TypeId} {own : Bool} {v : Value} (ht : aggT P t = some false) (hb : h.blk b = some (.row c e own)) (hv : c[o]? = some v) :
    ld P h t b o K = K v := by
  simp [ld, load, ht, H.cell, hb, hv]

theorem ld_ag {h : H} {t : TypeId} {b o n : Nat} {K : Value → Option R} {c : List Value} {e : TypeId} {own : Bool} (ht : aggT P t = some true) (hs : size? P t = some n) (hb : h.blk b = some (.row c e own))
    (hle : o + n ≤ c.length) : ld P h t b o K = K (.agg ((c.drop o).take n).toArray) := by
  simp [ld, load, ht, hs, H.rd, hb, hle]

theorem st_eq {h : H} {t : TypeId} {b o : Nat} {v : Value} {K : H → Option R} {c : List Value} {e : TypeId} (hs : size? P t = some v.cells.size) (hb : h.blk b = some (.row c e true))
    (hle : o + v.cells.size ≤ c.length) (hsc : v.cells.toList.all scal = true) : st P h t b o v K = K (h.set b (.row (setAt c o v.cells.toList) e true)) := by
  simp only [st, store, hb]
  rw [if_pos ⟨hs, hle, hsc⟩]
  rfl

/-- A new variable that is set at once. -/
def H.fresh (h : H) (t : TypeId) (zs xs : List Value) : H := (h.new (.row zs t true)).set h.nx (.row xs t true)

theorem setAt_all : ∀ (xs pre zs : List Value), zs.length = xs.length → setAt (pre ++ zs) pre.length xs = pre ++ xs := by
  intro xs
  induction xs with
  | nil => intro pre zs hz; rw [List.eq_nil_of_length_eq_zero hz]; rfl
  | cons x xs ih =>
    intro pre zs hz
    cases zs with
    | nil => cases hz
    | cons z zs =>
      simp only [setAt]
      have h1 : (pre ++ z :: zs).set pre.length x = (pre ++ [x]) ++ zs := by simp
      have h2 := ih (pre ++ [x]) zs (by simpa using hz)
      rw [h1, show pre.length + 1 = (pre ++ [x]).length by simp, h2]
      simp

theorem al_st {h : H} {t : TypeId} {zs xs : List Value} {K : H → Option R} (hs : size? P t = some xs.length) (hz : zs.length = xs.length) (hsc : xs.all scal = true) :
    (al h t zs fun h3 => st P h3 t (AM.nx h) 0 (.agg xs.toArray) K) = K (h.fresh t zs xs) := by
  rw [al_eq]
  have hb : (h.new (.row zs t true)).blk h.nx = some (.row zs t true) := blk_new_self _ _
  rw [nx_eq, st_eq (v := .agg xs.toArray) (by rw [hs]; simp [Value.cells]) hb (by simp [Value.cells, hz]) (by simpa [Value.cells] using hsc)]
  have : setAt zs 0 (Value.agg xs.toArray).cells.toList = xs := setAt_all xs [] zs hz
  rw [this]
  rfl

theorem al_st1 {h : H} {t : TypeId} {z v : Value} {K : H → Option R} (hs : size? P t = some 1) (hc : v.cells = #[v]) (hsc : scal v = true) :
    (al h t [z] fun h3 => st P h3 t (AM.nx h) 0 v K) = K (h.fresh t [z] [v]) := by
  rw [al_eq]
  have hb : (h.new (.row [z] t true)).blk h.nx = some (.row [z] t true) := blk_new_self _ _
  rw [nx_eq, st_eq (v := v) (by rw [hs, hc]; rfl) hb (by rw [hc]; simp) (by rw [hc]; simp [hsc])]
  rw [hc]
  rfl

theorem bld_some {t : TypeId} {ps : List (Nat × Value)} {v : Value} {K : Value → Option R} (hb : build P t ps = some v) : bld P t ps K = K v := by
  simp [bld, hb]
theorem bls_some {h h' : H} {t : TypeId} {n : Nat} {ps : List (Nat × Value)} {v : Value} {K : Value → H → Option R} (hb : buildSlice P t n ps h = some (v, h')) : bls P h t n ps K = K v h' := by
  simp [bls, hb]

theorem six_in {b o n c : Nat} {i : Int} {s : Nat} {K : Nat → Nat → Option R} (h0 : 0 ≤ i) (h1 : i < n) : six (.slice (some ⟨b, o, none⟩) n c) i s K = K b (o + i.toNat * s) := by
  simp only [six]; rw [if_pos ⟨h0, h1⟩]

theorem aix_in {n : Nat} {i : Int} {x : Option R} (h0 : 0 ≤ i) (h1 : i < n) : aix n i x = x := by
  simp only [aix]; rw [if_pos ⟨h0, h1⟩]

theorem calls_eq {h h' : H} {f : FuncId} {xs : List Value} {v : Value} {K : Value → H → Option R} (hc : rec f xs.toArray h = some (v, h')) : calls rec h f xs K = K v h' := by
  simp [calls, hc]

theorem callsV_eq {h : H} {f : FuncId} {first captured : Array Value} {xs : List Value} {K : Value → H → Option R} :
    callsV rec h (.func (.func f) first captured) xs K = calls rec h f (first.toList ++ xs ++ captured.toList) K := by
  simp only [callsV, callV, calls]
  congr 2
  apply Array.ext'
  simp

theorem callsV_some {h h' : H} {f v : Value} {xs : List Value} {K : Value → H → Option R} (hc : callV rec f xs.toArray h = some (v, h')) : callsV rec h f xs K = K v h' := by
  simp [callsV, hc]

theorem lp_eq {F : List Value → H → Option (Ex × List Value × H)} {ws ws' : List Value} {h h' : H} {e : Ex} {K : Ex → List Value → H → Option R} (hl : lpGo F k ws h = some (e, ws', h')) : lp k F ws h K = K e ws' h' := by
  simp [lp, hl]

theorem lpGo_next {F : List Value → H → Option (Ex × List Value × H)} {m : Nat} {ws ws' : List Value} {h h' : H} (hl : F ws h = some (.normal, ws', h')) : lpGo F (m + 1) ws h = lpGo F m ws' h' := by
  simp [lpGo, hl]
theorem lpGo_exit {F : List Value → H → Option (Ex × List Value × H)} {m i : Nat} {ws ws' : List Value} {h h' : H} (hl : F ws h = some (.exit i, ws', h')) : lpGo F (m + 1) ws h = some (.exit i, ws', h') := by
  simp [lpGo, hl]
theorem lpGo_ret {F : List Value → H → Option (Ex × List Value × H)} {m : Nat} {ws ws' : List Value} {h h' : H} (hl : F ws h = some (.ret, ws', h')) : lpGo F (m + 1) ws h = some (.ret, ws', h') := by
  simp [lpGo, hl]

/-- A loop that ends after at most as many rounds as a measure says: the rounds keep an invariant. -/
theorem lpGo_inv {F : List Value → H → Option (Ex × List Value × H)} (I : Nat → List Value → H → Prop) (Q : Ex → List Value → H → Prop)
    (step : ∀ d ws h, I d ws h → (∃ e ws' h', F ws h = some (e, ws', h') ∧ ((e = .normal ∧ ∃ d', d' < d ∧ I d' ws' h') ∨ (e ≠ .normal ∧ Q e ws' h')))) :
    ∀ (d m : Nat) {ws : List Value} {h : H}, d < m → I d ws h → ∃ e ws' h', lpGo F m ws h = some (e, ws', h') ∧ Q e ws' h' := by
  intro d
  induction d using Nat.strongRecOn with
  | _ d ih =>
    intro m ws h hm hI
    cases m with
    | zero => omega
    | succ m =>
      obtain ⟨e, ws', h', hF, hh⟩ := step d ws h hI
      rcases hh with ⟨rfl, d', hd, hI'⟩ | ⟨hne, hQ⟩
      · rw [lpGo_next hF]
        exact ih d' hd m (by omega) hI'
      · refine ⟨e, ws', h', ?_, hQ⟩
        cases e with
        | normal => exact absurd rfl hne
        | exit i => exact lpGo_exit hF
        | ret => exact lpGo_ret hF

theorem nx_fresh (h : H) (t : TypeId) (zs xs : List Value) : (h.fresh t zs xs).nx = h.nx + 1 := rfl
theorem blk_fresh (h : H) (t : TypeId) (zs xs : List Value) : (h.fresh t zs xs).blk h.nx = some (.row xs t true) := blk_set_self _ _ _
theorem Ext.fresh {h0 h : H} (e : Ext h0 h) (t : TypeId) (zs xs : List Value) : Ext h0 (h.fresh t zs xs) := (e.new' _).set e.nx _

end

/-! ### Whole numbers -/

theorem wrap64 {n : Int} (h1 : -9223372036854775808 ≤ n) (h2 : n < 9223372036854775808) : IntKind.i64.wrap n = n := by
  simp only [IntKind.wrap, IntKind.signed, IntKind.bits, Bool.true_and]
  split <;> rename_i hh <;> simp at hh <;> omega

theorem add64 {a b : Int} (h1 : -9223372036854775808 ≤ a + b) (h2 : a + b < 9223372036854775808) : add .i64 a b = a + b := wrap64 h1 h2
theorem sub64 {a b : Int} (h1 : -9223372036854775808 ≤ a - b) (h2 : a - b < 9223372036854775808) : sub .i64 a b = a - b := wrap64 h1 h2
theorem mul64 {a b : Int} (h1 : -9223372036854775808 ≤ a * b) (h2 : a * b < 9223372036854775808) : mul .i64 a b = a * b := wrap64 h1 h2

/-- Whole numbers of the program's int. -/
abbrev iv (n : Int) : Value := .int .i64 n

theorem lt_t {a b : Int} (h : a < b) : lt a b = true := decide_eq_true h
theorem lt_f {a b : Int} (h : ¬ a < b) : lt a b = false := decide_eq_false h
theorem le_t {a b : Int} (h : a ≤ b) : le a b = true := decide_eq_true h
theorem le_f {a b : Int} (h : ¬ a ≤ b) : le a b = false := decide_eq_false h
theorem eq_t {a b : Int} (h : a = b) : eq a b = true := by simp [eq, h]
theorem eq_f {a b : Int} (h : ¬ a = b) : eq a b = false := by simp [eq, h]

theorem ifB_lt {R : Type} {a b : Int} {x y : Option R} : ifB (lt a b) x y = if a < b then x else y := by
  by_cases h : a < b
  · rw [lt_t h, ifB_true, if_pos h]
  · rw [lt_f h, ifB_false, if_neg h]
theorem ifB_le {R : Type} {a b : Int} {x y : Option R} : ifB (le a b) x y = if a ≤ b then x else y := by
  by_cases h : a ≤ b
  · rw [le_t h, ifB_true, if_pos h]
  · rw [le_f h, ifB_false, if_neg h]
theorem ifB_eq {R : Type} {a b : Int} {x y : Option R} : ifB (eq a b) x y = if a = b then x else y := by
  by_cases h : a = b
  · rw [eq_t h, ifB_true, if_pos h]
  · rw [eq_f h, ifB_false, if_neg h]
theorem ifB_not {R : Type} {b : Bool} {x y : Option R} : ifB (Bool.not b) x y = ifB b y x := by cases b <;> rfl
theorem off0 (d : Nat) : off 0 d = d := Nat.zero_add d

end Go.AM

namespace Go.AM

/-- A slice (elements of type 'e', of 's' cells each) and what it holds. -/
inductive SlR (h : H) (e : TypeId) (s : Nat) : Value → List (List Value) → Prop
  | nil : SlR h e s (.slice none 0 0) []
  | at_ {b o c : Nat} {cs : List Value} {own : Bool} {l : List (List Value)} (hb : b < h.nx) (hr : h.blk b = some (.row cs e own)) (hk : l.length ≤ capK c) (hc : capK c < U)
      (hl : o + l.length * s ≤ cs.length) (hx : ∀ i x, l[i]? = some x → x.length = s ∧ ∀ j, j < s → cs[o + i * s + j]? = x[j]?) :
      SlR h e s (.slice (some ⟨b, o, none⟩) l.length c) l

theorem SlR.ext {h h' : H} {e : TypeId} {s : Nat} {v : Value} {l : List (List Value)} (a : SlR h e s v l) (x : Ext h h') : SlR h' e s v l := by
  cases a with
  | nil => exact .nil
  | at_ hb hr hk hc hl hx => exact .at_ (Nat.lt_of_lt_of_le hb x.nx) ((x.blk _ hb).trans hr) hk hc hl hx

theorem SlR.len {h : H} {e : TypeId} {s : Nat} {v : Value} {l : List (List Value)} (a : SlR h e s v l) {R : Type} (K : Int → Option R) : len v K = K l.length := by
  cases a <;> rfl

theorem SlR.lenOf {h : H} {e : TypeId} {s : Nat} {v : Value} {l : List (List Value)} (a : SlR h e s v l) : lenOf v = some l.length := by
  cases a <;> rfl

theorem SlR.lt {h : H} {e : TypeId} {s : Nat} {v : Value} {l : List (List Value)} (a : SlR h e s v l) : l.length < U := by
  cases a with
  | nil => decide
  | at_ hb hr hk hc hl hx => omega

theorem SlR.lt62 {h : H} {e : TypeId} {s : Nat} {v : Value} {l : List (List Value)} (a : SlR h e s v l) : l.length < 4611686018427387904 := a.lt

/-- An element's place. -/
theorem SlR.six {h : H} {e : TypeId} {s : Nat} {v : Value} {l : List (List Value)} (a : SlR h e s v l) {i : Int} (h0 : 0 ≤ i) {x : List Value} (hx : l[i.toNat]? = some x) :
    ∃ (b o : Nat) (cs : List Value) (own : Bool), b < h.nx ∧ h.blk b = some (.row cs e own) ∧ x.length = s ∧ o + s ≤ cs.length ∧ (∀ j, j < s → cs[o + j]? = x[j]?) ∧
      ∀ {R : Type} (K : Nat → Nat → Option R), six v i s K = K b o := by
  cases a with
  | nil => simp at hx
  | @at_ b o c cs own _ hb hr hk hc hl hxs =>
    have hi : i.toNat < l.length := by
      rcases Nat.lt_or_ge i.toNat l.length with h | h
      · exact h
      · rw [List.getElem?_eq_none h] at hx; cases hx
    obtain ⟨g1, g2⟩ := hxs _ _ hx
    refine ⟨b, o + i.toNat * s, cs, own, hb, hr, g1, ?_, g2, fun K => six_in h0 (by omega)⟩
    have : (i.toNat + 1) * s ≤ l.length * s := Nat.mul_le_mul_right _ hi
    rw [Nat.add_mul] at this
    omega

theorem take_drop_eq {cs x : List Value} {o s : Nat} (h1 : x.length = s) (h2 : o + s ≤ cs.length) (h3 : ∀ j, j < s → cs[o + j]? = x[j]?) : (cs.drop o).take s = x := by
  apply List.ext_getElem?
  intro j
  by_cases hj : j < s
  · rw [List.getElem?_take_of_lt hj, List.getElem?_drop, h3 j hj]
  · rw [List.getElem?_eq_none (by simp; omega), List.getElem?_eq_none (by omega)]

/-- A whole element. -/
theorem ld_elem {P : Program} {h : H} {t : TypeId} {b o s : Nat} {cs x : List Value} {e : TypeId} {own : Bool} {R : Type} {K : Value → Option R} (ht : aggT P t = some true) (hs : size? P t = some s)
    (hb : h.blk b = some (.row cs e own)) (h1 : x.length = s) (h2 : o + s ≤ cs.length) (h3 : ∀ j, j < s → cs[o + j]? = x[j]?) : ld P h t b o K = K (.agg x.toArray) := by
  rw [ld_ag ht hs hb h2, take_drop_eq h1 h2 h3]

/-- The beginning of a slice. -/
theorem SlR.take {P : Program} {h : H} {e t : TypeId} {s : Nat} {v : Value} {l : List (List Value)} (a : SlR h e s v l) (hu : P.underlying t = some (.slice e)) (hs : size? P e = some s) {i : Int} (h0 : 0 ≤ i) (h1 : i ≤ l.length) :
    ∃ v', SlR h e s v' (l.take i.toNat) ∧ ∀ {R : Type} (K : Value → Option R), sli P h t v none (some (.int .i64 i)) none K = K v' := by
  cases a with
  | nil =>
    have : i = 0 := by simp at h1; omega
    subst this
    refine ⟨_, .nil, fun K => ?_⟩
    simp [sli, slice, hu, hs, bound]
  | @at_ b o c cs own _ hb hr hk hc hl hxs =>
    have hle : i.toNat ≤ l.length := by omega
    have hlen : (l.take i.toNat).length = i.toNat := by simp; omega
    have hx' : ∀ i_1 x, (l.take i.toNat)[i_1]? = some x → x.length = s ∧ ∀ j, j < s → cs[o + i_1 * s + j]? = x[j]? := by
      intro i1 x hx
      have : i1 < i.toNat := by
        rcases Nat.lt_or_ge i1 i.toNat with h | h
        · exact h
        · rw [List.getElem?_eq_none (by omega)] at hx; cases hx
      rw [List.getElem?_take_of_lt this] at hx
      exact hxs _ _ hx
    have hl' : o + (l.take i.toNat).length * s ≤ cs.length := by
      rw [hlen]
      have := Nat.mul_le_mul_right s hle
      omega
    have hbd : bound (some (.int .i64 i)) (capK c) l.length = some i.toNat := by
      simp only [bound]
      rw [if_pos ⟨h0, by omega⟩]
    by_cases hcu : c < U
    · refine ⟨.slice (some ⟨b, o, none⟩) i.toNat c, ?_, fun K => ?_⟩
      · have := SlR.at_ (h := h) (e := e) (s := s) (c := c) hb hr (by omega) hc hl' hx'
        rw [hlen] at this
        exact this
      · have hck : capK c = c := by simp [capK, hcu]
        simp only [sli, slice, hu, hr, hs]
        rw [if_pos ⟨trivial, hc, rfl⟩]
        simp [bound, hbd, hcu, hck]
        simp only [bound] at hbd
        rw [hck] at hbd
        simp [hbd]
    · have hck : capK c = c - U := by simp [capK, hcu]
      refine ⟨.slice (some ⟨b, o, none⟩) i.toNat c, ?_, fun K => ?_⟩
      · have := SlR.at_ (h := h) (e := e) (s := s) (c := c) hb hr (by omega) hc hl' hx'
        rw [hlen] at this
        exact this
      · simp only [sli, slice, hu, hr, hs]
        rw [if_pos ⟨trivial, hc, rfl⟩]
        simp [bound, hcu, hck]
        simp only [bound] at hbd
        rw [hck] at hbd
        simp [hbd, Nat.add_sub_cancel' (Nat.not_lt.1 hcu)]

/-! ### Slices that grow by append, one element at a time -/

def okApp (P : Program) (t e : TypeId) (s : Nat) : Bool :=
  match P.underlying t, P.info? e, zero? P e with
  | some (.slice e'), some i, some z => e' == e && i.size == s && decide (i.bytes ≤ 4096) && decide (0 < s) && z.cells.size == s
  | _, _, _ => false

theorem capK_U (n : Nat) : capK (U + n) = n := by
  unfold capK
  rw [if_neg (by omega)]
  omega

theorem okApp_spec {P : Program} {t e : TypeId} {s : Nat} (h : okApp P t e s = true) :
    ∃ i z, P.underlying t = some (.slice e) ∧ P.info? e = some i ∧ zero? P e = some z ∧ i.size = s ∧ i.bytes ≤ 4096 ∧ 0 < s ∧ z.cells.size = s := by
  unfold okApp at h
  split at h
  · rename_i e' i z h1 h2 h3
    simp only [Bool.and_eq_true, beq_iff_eq, decide_eq_true_eq] at h
    obtain ⟨⟨⟨⟨rfl, h5⟩, h6⟩, h7⟩, h8⟩ := h
    exact ⟨i, z, h1, h2, h3, h5, h6, h7, h8⟩
  · cases h

/-- A slice that was made by appending alone; its row lies at 'lo' or behind. -/
inductive ApR (lo : Nat) (h : H) (e : TypeId) (s : Nat) : Value → List (List Value) → Prop
  | nil : ApR lo h e s (.slice none 0 0) []
  | at_ {b : Nat} {l : List (List Value)} (hlo : lo ≤ b) (hb : b < h.nx) (hr : h.blk b = some (.row l.flatten e true)) (hn : 0 < l.length) (hx : ∀ x ∈ l, x.length = s) (hm : l.length < 2 ^ 30) :
      ApR lo h e s (.slice (some ⟨b, 0, none⟩) l.length (U + l.length)) l

theorem flatten_len {s : Nat} : ∀ {l : List (List Value)}, (∀ x ∈ l, x.length = s) → l.flatten.length = l.length * s := by
  intro l
  induction l with
  | nil => intro _; simp
  | cons x l ih =>
    intro h
    rw [List.flatten_cons, List.length_append, ih (fun y hy => h y (List.mem_cons_of_mem _ hy)), h x (by simp), List.length_cons, Nat.add_mul]
    omega

theorem flatten_get {s : Nat} : ∀ {l : List (List Value)}, (∀ x ∈ l, x.length = s) → ∀ (i : Nat) (x : List Value), l[i]? = some x → ∀ j, j < s → l.flatten[i * s + j]? = x[j]? := by
  intro l
  induction l with
  | nil => intro _ i x h; simp at h
  | cons y l ih =>
    intro h i x hx j hj
    have hy : y.length = s := h y (by simp)
    rw [List.flatten_cons]
    cases i with
    | zero =>
      simp at hx
      subst hx
      rw [Nat.zero_mul, Nat.zero_add, List.getElem?_append_left (by omega)]
    | succ i =>
      have e : (i + 1) * s + j = s + (i * s + j) := by rw [Nat.add_mul]; omega
      rw [e, List.getElem?_append_right (by omega), hy, Nat.add_sub_cancel_left]
      exact ih (fun z hz => h z (List.mem_cons_of_mem _ hz)) i x (by simpa using hx) j hj

theorem ApR.slR {lo : Nat} {h : H} {e : TypeId} {s : Nat} {v : Value} {l : List (List Value)} (a : ApR lo h e s v l) : SlR h e s v l := by
  cases a with
  | nil => exact .nil
  | @at_ b l hlo hb hr hn hx hm =>
    have hk : capK (U + l.length) = l.length := capK_U _
    refine .at_ hb hr (by omega) (by rw [hk]; have : (2:Nat) ^ 30 < U := by decide
                                     omega) (by rw [flatten_len hx]; omega) fun i x hi => ⟨hx x (List.mem_of_getElem? hi), fun j hj => ?_⟩
    rw [Nat.zero_add]
    exact flatten_get hx i x hi j hj

theorem ApR.isSl {lo : Nat} {h : H} {e : TypeId} {s : Nat} {v : Value} {l : List (List Value)} (a : ApR lo h e s v l) : ∃ x n c, v = .slice x n c := by
  cases a with
  | nil => exact ⟨_, _, _, rfl⟩
  | at_ => exact ⟨_, _, _, rfl⟩

/-- It is as it was where its row is. -/
theorem ApR.keep {lo : Nat} {h h' : H} {e : TypeId} {s : Nat} {v : Value} {l : List (List Value)} (a : ApR lo h e s v l) (hn : h.nx ≤ h'.nx) (hb : ∀ b c, lo ≤ b → b < h.nx → h.blk b = some (.row c e true) → h'.blk b = h.blk b) :
    ApR lo h' e s v l := by
  cases a with
  | nil => exact .nil
  | at_ hlo hb' hr hp hx hm => exact .at_ hlo (Nat.lt_of_lt_of_le hb' hn) ((hb _ _ hlo hb' hr).trans hr) hp hx hm

theorem ApR.ext {lo : Nat} {h h' : H} {e : TypeId} {s : Nat} {v : Value} {l : List (List Value)} (a : ApR lo h e s v l) (x : Ext h h') : ApR lo h' e s v l :=
  a.keep x.nx fun b _ _ hb _ => x.blk b hb

theorem SlR.src {h : H} {e : TypeId} {s : Nat} {y : Value} {x : List Value} (hy : SlR h e s y [x]) (hs : 0 < s) : srcCells s y h = some x := by
  generalize hl : [x] = l at hy
  cases hy with
  | nil => cases hl
  | @at_ b o c cs own l hb hr hk hc hle hx =>
    subst hl
    obtain ⟨h1, h2⟩ := hx 0 x rfl
    simp only [List.length_cons, List.length_nil, Nat.zero_add, Nat.one_mul] at hle ⊢
    simp only [srcCells, Nat.one_mul]
    rw [if_neg (by omega)]
    simp only [H.rd, hr]
    rw [if_pos hle, take_drop_eq h1 hle (fun j hj => by simpa using h2 j hj)]

/-- One element more. -/
theorem ApR.app {P : Program} {lo : Nat} {h : H} {e t t' : TypeId} {s : Nat} {v y : Value} {l : List (List Value)} {x : List Value} (a : ApR lo h e s v l) (ht : okApp P t e s = true) (ht' : okApp P t' e s = true)
    (hy : SlR h e s y [x]) (hsc : x.all scal = true) (hm : l.length + 1 < 2 ^ 30) (hlo : lo ≤ h.nx) :
    ∃ v' h', (∀ {R : Type} (K : Value → H → Option R), app P h t t' v y K = K v' h') ∧ ApR lo h' e s v' (l ++ [x]) ∧ h.nx ≤ h'.nx ∧ (∀ b, b < lo → h'.blk b = h.blk b) ∧
      ∀ b k, b < h.nx → h.blk b = some k → (∀ c, k ≠ .row c e true) → h'.blk b = some k := by
  obtain ⟨i, z, h1, h2, h3, h4, h5, h6, h7⟩ := okApp_spec ht
  obtain ⟨_, _, h1', _⟩ := okApp_spec ht'
  have hsrc := hy.src h6
  have hlen := hy.lenOf
  have hxl : x.length = s := by
    generalize hl : [x] = l' at hy
    cases hy with
    | nil => cases hl
    | at_ hb hr hk hc hle hx => subst hl; exact (hx 0 x rfl).1
  cases a with
  | nil =>
    refine ⟨.slice (some ⟨h.nx, 0, none⟩) 1 (U + 1), h.new (.row x e true), fun K => ?_, ?_, Nat.le_succ _, fun b hb => blk_new_ne _ _ (by omega), fun b k hb hk _ => by rw [blk_new_ne _ _ (by omega)]; exact hk⟩
    · unfold AM.app append
      simp only [h1, h1', h2, h3, hlen, h4, hsrc, Option.bind_some]
      rw [if_pos ⟨h5, h6, h7⟩]
      simp
    · have := ApR.at_ (lo := lo) (h := h.new (.row x e true)) (e := e) (s := s) (b := h.nx) (l := [x]) hlo (Nat.lt_succ_self _) (by rw [blk_new_self]; simp) (by simp) (by simpa using hxl) (by simp)
      exact this
  | @at_ b l hlob hb hr hn hx hm' =>
    have hne : h.blk b = some (.row l.flatten e true) := hr
    refine ⟨.slice (some ⟨h.nx, 0, none⟩) (l.length + 1) (U + (l.length + 1)), (h.kill b).new (.row (l.flatten ++ x) e true), fun K => ?_, ?_, ?_, fun b' hb' => ?_, fun b' k hb' hk hnk => ?_⟩
    · unfold AM.app append
      simp only [h1, h1', h2, h3, hlen, h4, hsrc, Option.bind_some]
      rw [if_pos ⟨h5, h6, h7⟩]
      have hck : capK (U + l.length) = l.length := capK_U _
      simp only [List.length_cons, List.length_nil, Nat.zero_add, hck]
      rw [if_neg (by omega), if_neg (by omega), if_pos hm, if_neg (by omega)]
      simp only [hr, h4]
      rw [if_pos ⟨trivial, by rw [flatten_len hx]; omega, hsc⟩]
      have : (l.flatten.drop 0).take (l.length * s) = l.flatten := by rw [List.drop_zero, List.take_of_length_le (by rw [flatten_len hx]; exact Nat.le_refl _)]
      rw [this]
      rfl
    · have hb2 : ((h.kill b).new (.row (l.flatten ++ x) e true)).blk h.nx = some (.row (l ++ [x]).flatten e true) := by
        rw [show h.nx = (h.kill b).nx from rfl, blk_new_self]; simp
      have := ApR.at_ (lo := lo) (h := (h.kill b).new (.row (l.flatten ++ x) e true)) (e := e) (s := s) (b := h.nx) (l := l ++ [x]) hlo (Nat.lt_succ_self _) hb2 (by simp) (by
        intro y hy
        rcases List.mem_append.1 hy with hy | hy
        · exact hx y hy
        · simp at hy; rw [hy]; exact hxl) (by simpa using hm)
      rw [List.length_append] at this
      exact this
    · exact Nat.le_succ _
    · rw [blk_new_ne _ _ (by rw [nx_kill]; omega), blk_kill_ne _ _ (by omega)]
    · have : b' ≠ b := by
        intro e1
        subst e1
        rw [hr] at hk
        cases hk
        exact hnk _ rfl
      rw [blk_new_ne _ _ (by rw [nx_kill]; omega), blk_kill_ne _ _ this]
      exact hk

theorem SlR.srcAll {h : H} {e : TypeId} {s : Nat} {y : Value} {l : List (List Value)} (hy : SlR h e s y l) (hs : 0 < s) : srcCells s y h = some l.flatten := by
  cases hy with
  | nil => rfl
  | @at_ b o c cs own l hb hr hk hc hle hx =>
    have hxl : ∀ x ∈ l, x.length = s := by
      intro x hx'
      obtain ⟨i, hi, rfl⟩ := List.getElem_of_mem hx'
      exact (hx i _ (List.getElem?_eq_getElem hi)).1
    simp only [srcCells]
    by_cases h0 : l.length * s = 0
    · rw [if_pos h0]
      have : l.length = 0 := by
        rcases Nat.mul_eq_zero.1 h0 with h1 | h1
        · exact h1
        · omega
      rw [List.eq_nil_of_length_eq_zero this]
      rfl
    · rw [if_neg h0]
      simp only [H.rd, hr]
      rw [if_pos hle, take_drop_eq (flatten_len hxl) hle]
      intro j hj
      have hq : j / s < l.length := by
        rw [Nat.div_lt_iff_lt_mul hs]; exact hj
      have hm : j % s < s := Nat.mod_lt _ hs
      have e1 : j = j / s * s + j % s := by
        have := Nat.div_add_mod j s
        rw [Nat.mul_comm] at this
        exact this.symm
      have h1 := (hx (j / s) l[j / s] (List.getElem?_eq_getElem hq)).2 (j % s) hm
      have h2 := flatten_get hxl (j / s) l[j / s] (List.getElem?_eq_getElem hq) (j % s) hm
      rw [← e1] at h2
      rw [h2, ← h1, Nat.add_assoc, ← e1]

/-- All elements appended to an empty slice. -/
theorem app_all {P : Program} {h : H} {e t t' : TypeId} {s b : Nat} {y : Value} {l : List (List Value)} (ht : okApp P t e s = true) (ht' : okApp P t' e s = true) (hb : b < h.nx) (hr : h.blk b = some (.row [] e true))
    (hy : SlR h e s y l) (hm : l.length < 2 ^ 30) : ∃ v' h', (∀ {R : Type} (K : Value → H → Option R), app P h t t' (.slice (some ⟨b, 0, none⟩) 0 0) y K = K v' h') ∧ Ext h h' ∧ SlR h' e s v' l := by
  obtain ⟨i, z, h1, h2, h3, h4, h5, h6, h7⟩ := okApp_spec ht
  obtain ⟨_, _, h1', _⟩ := okApp_spec ht'
  have hsrc := hy.srcAll h6
  have hlen := hy.lenOf
  have hxl : ∀ x ∈ l, x.length = s := by
    intro x hx'
    cases hy with
    | nil => cases hx'
    | at_ _ _ _ _ _ hx =>
      obtain ⟨i, hi, rfl⟩ := List.getElem_of_mem hx'
      exact (hx i _ (List.getElem?_eq_getElem hi)).1
  by_cases h0 : l.length = 0
  · refine ⟨.slice (some ⟨b, 0, none⟩) 0 0, h, fun K => ?_, .refl _, ?_⟩
    · unfold AM.app append
      simp only [h1, h1', h2, h3, hlen, h4, hsrc, Option.bind_some]
      rw [if_pos ⟨h5, h6, h7⟩]
      simp only [h0]
      rfl
    · have hnil := List.eq_nil_of_length_eq_zero h0
      subst hnil
      exact .at_ (l := []) hb hr (Nat.zero_le _) (by decide) (by simp) (fun i x hi => by simp at hi)
  · refine ⟨.slice (some ⟨h.nx, 0, none⟩) l.length (U + l.length), h.new (.row l.flatten e true), fun K => ?_, .new _ _, ?_⟩
    · unfold AM.app append
      simp only [h1, h1', h2, h3, hlen, h4, hsrc, Option.bind_some]
      rw [if_pos ⟨h5, h6, h7⟩]
      simp only [Nat.zero_add]
      rw [if_neg h0, if_neg (by show ¬ l.length ≤ capK 0; rw [show capK 0 = 0 from by decide]; omega), if_pos hm, if_pos (by decide)]
      rfl
    · exact (ApR.at_ (lo := 0) (Nat.zero_le _) (Nat.lt_succ_self _) (blk_new_self _ _) (by omega) hxl hm).slR

end Go.AM

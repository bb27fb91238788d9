/- Laws for reading staged forms. -/
import Derived.Test.YthmfjfblndophaaAmStC
namespace Go.AM

abbrev pt (b o : Nat) : Value := .pointer (some ⟨b, o, none⟩)

/-- What is old is as it was. -/
structure Ext (h h' : H) : Prop where
  nx : h.nx ≤ h'.nx
  blk : ∀ b, b < h.nx → h'.blk b = h.blk b

theorem Ext.refl (h : H) : Ext h h := ⟨Nat.le_refl _, fun _ _ => rfl⟩
theorem Ext.trans {h1 h2 h3 : H} (a : Ext h1 h2) (b : Ext h2 h3) : Ext h1 h3 :=
  ⟨Nat.le_trans a.nx b.nx, fun i hi => (b.blk i (Nat.lt_of_lt_of_le hi a.nx)).trans (a.blk i hi)⟩

theorem Ext.new (h : H) (k : Blk) : Ext h (h.new k) := ⟨Nat.le_succ _, fun b hb => by simp [H.new, Nat.ne_of_lt hb]⟩

theorem nx_eq (h : H) : AM.nx h = h.nx := rfl
theorem nx_new (h : H) (k : Blk) : (h.new k).nx = h.nx + 1 := rfl
theorem nx_set (h : H) (b : Nat) (k : Blk) : (h.set b k).nx = h.nx := rfl
theorem nx_kill (h : H) (b : Nat) : (h.kill b).nx = h.nx := rfl
theorem wr_new (h : H) (k : Blk) : (h.new k).wr = h.wr := rfl
theorem blk_new_self (h : H) (k : Blk) : (h.new k).blk h.nx = some k := by simp [H.new]
theorem blk_new_ne (h : H) (k : Blk) {b : Nat} (hb : b ≠ h.nx) : (h.new k).blk b = h.blk b := by simp [H.new, hb]
theorem blk_new_at (h : H) (k : Blk) {b : Nat} (hb : b = h.nx) : (h.new k).blk b = some k := by simp [H.new, hb]
theorem blk_set_self (h : H) (b : Nat) (k : Blk) : (h.set b k).blk b = some k := by simp [H.set]
theorem blk_set_ne (h : H) (b : Nat) (k : Blk) {i : Nat} (hb : i ≠ b) : (h.set b k).blk i = h.blk i := by simp [H.set, hb]
theorem blk_kill_ne (h : H) (b : Nat) {i : Nat} (hb : i ≠ b) : (h.kill b).blk i = h.blk i := by simp [H.kill, hb]

theorem Ext.set {h h' : H} (e : Ext h h') {b : Nat} (hb : h.nx ≤ b) (k : Blk) : Ext h (h'.set b k) :=
  ⟨e.nx, fun i hi => by rw [blk_set_ne _ _ _ (by omega)]; exact e.blk i hi⟩
theorem Ext.kill {h h' : H} (e : Ext h h') {b : Nat} (hb : h.nx ≤ b) : Ext h (h'.kill b) :=
  ⟨e.nx, fun i hi => by rw [blk_kill_ne _ _ (by omega)]; exact e.blk i hi⟩
theorem Ext.new' {h h' : H} (e : Ext h h') (k : Blk) : Ext h (h'.new k) := e.trans (.new _ _)

section
variable {P : Program} {rec : Rec} {k : Nat} {R : Type}

theorem al_eq (h : H) (t : TypeId) (cs : List Value) (K : H → Option R) : al h t cs K = K (h.new (.row cs t true)) := rfl
theorem bx_eq (h : H) (t : TypeId) (v : Value) (K : H → Option R) : bx h t v K = K (h.new (.row v.cells.toList t true)) := rfl
theorem mkm_eq (h : H) (K : H → Option R) : mkm h K = K (h.new (.mp [] 0)) := rfl
theorem asI_int (k : IntKind) (n : Int) (K : Int → Option R) : asI k (.int k n) K = K n := by simp [asI]
theorem asK_int (k : IntKind) (n : Int) (K : Int → Option R) : asK (.int k n) K = K n := rfl
theorem asB_bool (b : Bool) (K : Bool → Option R) : asB (.bool b) K = K b := rfl
theorem asP_ptr (b o : Nat) (K : Nat → Nat → Option R) : asP (.pointer (some ⟨b, o, none⟩)) K = K b o := rfl
theorem ifB_true (x y : Option R) : ifB true x y = x := rfl
theorem ifB_false (x y : Option R) : ifB false x y = y := rfl
theorem ck_true (x : Option R) : ck true x = x := rfl
theorem nz_ne {b : Int} (h : b ≠ 0) (x : Option R) : nz b x = x := by simp [nz, h]
theorem nn_ge {b : Int} (h : 0 ≤ b) (x : Option R) : nn b x = x := by simp [nn, Int.not_lt.2 h]
theorem len_slice (b : Option Addr) (n c : Nat) (K : Int → Option R) : len (.slice b n c) K = K n := rfl
theorem ext_at (vs : Array Value) (i : Nat) {v : Value} (h : vs[i]? = some v) (K : Value → Option R) : ext (.tuple vs) i K = K v := by simp [ext, h]
theorem ext20 (a b : Value) (K : Value → Option R) : ext (.tuple #[a, b]) 0 K = K a := rfl
theorem ext21 (a b : Value) (K : Value → Option R) : ext (.tuple #[a, b]) 1 K = K b := rfl
theorem onE_exit (i j : Nat) (x y : Option R) : onE (.exit i) j x y = if i = j then x else y := rfl
theorem onE_ret (j : Nat) (x y : Option R) : onE .ret j x y = y := rfl
theorem onR_ret (x : Option R) : onR .ret x = x := rfl

theorem ld_sc {h : H} {t : TypeId} {b o : Nat} {K : Value → Option R} {c : List Value} {e : TypeId} {own : Bool} {v : Value} (ht : aggT P t = some false) (hb : h.blk b = some (.row c e own)) (hv : c[o]? = some v) :
    ld P h t b o K = K v := by
  simp [ld, load, ht, H.cell, hb, hv]

theorem ld_ag {h : H} {t : TypeId} {b o n : Nat} {K : Value → Option R} {c : List Value} {e : TypeId} {own : Bool} (ht : aggT P t = some true) (hs : size? P t = some n) (hb : h.blk b = some (.row c e own))
    (hle : o + n ≤ c.length) : ld P h t b o K = K (.agg ((c.drop o).take n).toArray) := by
  simp [ld, load, ht, hs, H.rd, hb, hle]

theorem st_eq {h : H} {t : TypeId} {b o : Nat} {v : Value} {K : H → Option R} {c : List Value} {e : TypeId} (hs : size? P t = some v.cells.size) (hb : h.blk b = some (.row c e true))
    (hle : o + v.cells.size ≤ c.length) (hsc : v.cells.toList.all scal = true) : st P h t b o v K = K (h.set b (.row (setAt c o v.cells.toList) e true)) := by
  simp only [st, store, hb]
  rw [if_pos ⟨hs, hle, hsc⟩]
  rfl

/-- A new variable that is set at once. -/
def H.fresh (h : H) (t : TypeId) (zs xs : List Value) : H := (h.new (.row zs t true)).set h.nx (.row xs t true)

theorem setAt_all : ∀ (xs pre zs : List Value), zs.length = xs.length → setAt (pre ++ zs) pre.length xs = pre ++ xs := by
  intro xs
  induction xs with
  | nil => intro pre zs hz; rw [List.eq_nil_of_length_eq_zero hz]; rfl
  | cons x xs ih =>
    intro pre zs hz
    cases zs with
    | nil => cases hz
    | cons z zs =>
      simp only [setAt]
      have h1 : (pre ++ z :: zs).set pre.length x = (pre ++ [x]) ++ zs := by simp
      have h2 := ih (pre ++ [x]) zs (by simpa using hz)
      rw [h1, show pre.length + 1 = (pre ++ [x]).length by simp, h2]
      simp

theorem al_st {h : H} {t : TypeId} {zs xs : List Value} {K : H → Option R} (hs : size? P t = some xs.length) (hz : zs.length = xs.length) (hsc : xs.all scal = true) :
    (al h t zs fun h3 => st P h3 t (AM.nx h) 0 (.agg xs.toArray) K) = K (h.fresh t zs xs) := by
  rw [al_eq]
  have hb : (h.new (.row zs t true)).blk h.nx = some (.row zs t true) := blk_new_self _ _
  rw [nx_eq, st_eq (v := .agg xs.toArray) (by rw [hs]; simp [Value.cells]) hb (by simp [Value.cells, hz]) (by simpa [Value.cells] using hsc)]
  have : setAt zs 0 (Value.agg xs.toArray).cells.toList = xs := setAt_all xs [] zs hz
  rw [this]
  rfl

theorem al_st1 {h : H} {t : TypeId} {z v : Value} {K : H → Option R} (hs : size? P t = some 1) (hc : v.cells = #[v]) (hsc : scal v = true) :
    (al h t [z] fun h3 => st P h3 t (AM.nx h) 0 v K) = K (h.fresh t [z] [v]) := by
  rw [al_eq]
  have hb : (h.new (.row [z] t true)).blk h.nx = some (.row [z] t true) := blk_new_self _ _
  rw [nx_eq, st_eq (v := v) (by rw [hs, hc]; rfl) hb (by rw [hc]; simp) (by rw [hc]; simp [hsc])]
  rw [hc]
  rfl

theorem bld_some {t : TypeId} {ps : List (Nat × Value)} {v : Value} {K : Value → Option R} (hb : build P t ps = some v) : bld P t ps K = K v := by
  simp [bld, hb]
theorem bls_some {h h' : H} {t : TypeId} {n : Nat} {ps : List (Nat × Value)} {v : Value} {K : Value → H → Option R} (hb : buildSlice P t n ps h = some (v, h')) : bls P h t n ps K = K v h' := by
  simp [bls, hb]

theorem six_in {b o n c : Nat} {i : Int} {s : Nat} {K : Nat → Nat → Option R} (h0 : 0 ≤ i) (h1 : i < n) : six (.slice (some ⟨b, o, none⟩) n c) i s K = K b (o + i.toNat * s) := by
  simp only [six]; rw [if_pos ⟨h0, h1⟩]

theorem aix_in {n : Nat} {i : Int} {x : Option R} (h0 : 0 ≤ i) (h1 : i < n) : aix n i x = x := by
  simp only [aix]; rw [if_pos ⟨h0, h1⟩]

theorem calls_eq {h h' : H} {f : FuncId} {xs : List Value} {v : Value} {K : Value → H → Option R} (hc : rec f xs.toArray h = some (v, h')) : calls rec h f xs K = K v h' := by
  simp [calls, hc]

theorem callsV_eq {h : H} {f : FuncId} {first captured : Array Value} {xs : List Value} {K : Value → H → Option R} :
    callsV rec h (.func (.func f) first captured) xs K = calls rec h f (first.toList ++ xs ++ captured.toList) K := by
  simp only [callsV, callV, calls]
  congr 2
  apply Array.ext'
  simp

theorem callsV_some {h h' : H} {f v : Value} {xs : List Value} {K : Value → H → Option R} (hc : callV rec f xs.toArray h = some (v, h')) : callsV rec h f xs K = K v h' := by
  simp [callsV, hc]

theorem lp_eq {F : List Value → H → Option (Ex × List Value × H)} {ws ws' : List Value} {h h' : H} {e : Ex} {K : Ex → List Value → H → Option R} (hl : lpGo F k ws h = some (e, ws', h')) : lp k F ws h K = K e ws' h' := by
  simp [lp, hl]

theorem lpGo_next {F : List Value → H → Option (Ex × List Value × H)} {m : Nat} {ws ws' : List Value} {h h' : H} (hl : F ws h = some (.normal, ws', h')) : lpGo F (m + 1) ws h = lpGo F m ws' h' := by
  simp [lpGo, hl]
theorem lpGo_exit {F : List Value → H → Option (Ex × List Value × H)} {m i : Nat} {ws ws' : List Value} {h h' : H} (hl : F ws h = some (.exit i, ws', h')) : lpGo F (m + 1) ws h = some (.exit i, ws', h') := by
  simp [lpGo, hl]
theorem lpGo_ret {F : List Value → H → Option (Ex × List Value × H)} {m : Nat} {ws ws' : List Value} {h h' : H} (hl : F ws h = some (.ret, ws', h')) : lpGo F (m + 1) ws h = some (.ret, ws', h') := by
  simp [lpGo, hl]

/-- A loop that ends after at most as many rounds as a measure says: the rounds keep an invariant. -/
theorem lpGo_inv {F : List Value → H → Option (Ex × List Value × H)} (I : Nat → List Value → H → Prop) (Q : Ex → List Value → H → Prop)
    (step : ∀ d ws h, I d ws h → (∃ e ws' h', F ws h = some (e, ws', h') ∧ ((e = .normal ∧ ∃ d', d' < d ∧ I d' ws' h') ∨ (e ≠ .normal ∧ Q e ws' h')))) :
    ∀ (d m : Nat) {ws : List Value} {h : H}, d < m → I d ws h → ∃ e ws' h', lpGo F m ws h = some (e, ws', h') ∧ Q e ws' h' := by
  intro d
  induction d using Nat.strongRecOn with
  | _ d ih =>
    intro m ws h hm hI
    cases m with
    | zero => omega
    | succ m =>
      obtain ⟨e, ws', h', hF, hh⟩ := step d ws h hI
      rcases hh with ⟨rfl, d', hd, hI'⟩ | ⟨hne, hQ⟩
      · rw [lpGo_next hF]
        exact ih d' hd m (by omega) hI'
      · refine ⟨e, ws', h', ?_, hQ⟩
        cases e with
        | normal => exact absurd rfl hne
        | exit i => exact lpGo_exit hF
        | ret => exact lpGo_ret hF

theorem nx_fresh (h : H) (t : TypeId) (zs xs : List Value) : (h.fresh t zs xs).nx = h.nx + 1 := rfl
theorem blk_fresh (h : H) (t : TypeId) (zs xs : List Value) : (h.fresh t zs xs).blk h.nx = some (.row xs t true) := blk_set_self _ _ _
theorem Ext.fresh {h0 h : H} (e : Ext h0 h) (t : TypeId) (zs xs : List Value) : Ext h0 (h.fresh t zs xs) := (e.new' _).set e.nx _

end

/-! ### Whole numbers -/

theorem wrap64 {n : Int} (h1 : -9223372036854775808 ≤ n) (h2 : n < 9223372036854775808) : IntKind.i64.wrap n = n := by
  simp only [IntKind.wrap, IntKind.signed, IntKind.bits, Bool.true_and]
  split <;> rename_i hh <;> simp at hh <;> omega

theorem add64 {a b : Int} (h1 : -9223372036854775808 ≤ a + b) (h2 : a + b < 9223372036854775808) : add .i64 a b = a + b := wrap64 h1 h2
theorem sub64 {a b : Int} (h1 : -9223372036854775808 ≤ a - b) (h2 : a - b < 9223372036854775808) : sub .i64 a b = a - b := wrap64 h1 h2
theorem mul64 {a b : Int} (h1 : -9223372036854775808 ≤ a * b) (h2 : a * b < 9223372036854775808) : mul .i64 a b = a * b := wrap64 h1 h2

/-- Whole numbers of the program's int. -/
abbrev iv (n : Int) : Value := .int .i64 n

theorem lt_t {a b : Int} (h : a < b) : lt a b = true := decide_eq_true h
theorem lt_f {a b : Int} (h : ¬ a < b) : lt a b = false := decide_eq_false h
theorem le_t {a b : Int} (h : a ≤ b) : le a b = true := decide_eq_true h
theorem le_f {a b : Int} (h : ¬ a ≤ b) : le a b = false := decide_eq_false h
theorem eq_t {a b : Int} (h : a = b) : eq a b = true := by simp [eq, h]
theorem eq_f {a b : Int} (h : ¬ a = b) : eq a b = false := by simp [eq, h]

theorem ifB_lt {R : Type} {a b : Int} {x y : Option R} : ifB (lt a b) x y = if a < b then x else y := by
  by_cases h : a < b
  · rw [lt_t h, ifB_true, if_pos h]
  · rw [lt_f h, ifB_false, if_neg h]
theorem ifB_le {R : Type} {a b : Int} {x y : Option R} : ifB (le a b) x y = if a ≤ b then x else y := by
  by_cases h : a ≤ b
  · rw [le_t h, ifB_true, if_pos h]
  · rw [le_f h, ifB_false, if_neg h]
theorem ifB_eq {R : Type} {a b : Int} {x y : Option R} : ifB (eq a b) x y = if a = b then x else y := by
  by_cases h : a = b
  · rw [eq_t h, ifB_true, if_pos h]
  · rw [eq_f h, ifB_false, if_neg h]
theorem ifB_not {R : Type} {b : Bool} {x y : Option R} : ifB (Bool.not b) x y = ifB b y x := by cases b <;> rfl
theorem off0 (d : Nat) : off 0 d = d := Nat.zero_add d

end Go.AM

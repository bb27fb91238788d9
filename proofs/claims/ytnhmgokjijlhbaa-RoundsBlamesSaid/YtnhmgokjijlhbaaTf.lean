/- The first timetable that keeps some spans. -/
import Derived.Test.YtnhmgokjijlhbaaTe
namespace Go.AM
open Go.Proofs

variable {R : Type}

attribute [local simp] nx_eq nx_new nx_set blk_new blk_set asI_int asK_int asB_bool asP_ptr al_eq bx_eq len_slice onE_exit onE_ret onR_ret Value.cells d3 d4 d22 d27 d45 d47 d50 d52 d67 d88 d89 w22 w27 cell_new cell_set rd_new rd_set off eq lt le ifB gv out eqF1 eqF2 eqF3 eqF4 eqF5 eqF6 eqF7 eqF8 ext20 ext21

def atI (b : List Int) (i : Int) : Int := (b[i.toNat]?).getD 0

/-- Is what the newest time has to keep kept? -/
def fitS (p : Int) (set : Nat) (b : List Int) (i : Nat) (c : Sp) (q : Bool) : Bool :=
  if set.testBit i = true ∧ imax c.a c.b + 1 = b.length then q && keepP p c (atI b c.a) (atI b c.b) else q

def fitsP (p : Int) (l : List Sp) (set : Nat) (b : List Int) : Bool := foldI (fitS p set b) l 0 true

/-- The first timetable that goes on from some times. -/
def firstP (p : Int) (l : List Sp) (set : Nat) : Nat → List Int → Option (List Int)
  | 0, b => some b
  | d + 1, b => (List.range p.toNat).findSome? fun (x : Nat) => if fitsP p l set (b ++ [(x : Int)]) = true then firstP p l set d (b ++ [(x : Int)]) else none

/-- On where there is nothing, and out with what is found. -/
def stO {β : Type} : Option β → Unit ⊕ β
  | none => .inl ()
  | some r => .inr r

theorem itL_find {α β : Type} {F : α → Option β} : ∀ (l : List α) (i : Nat), itL (σ := Unit) (ρ := β) (fun _ x _ => stO (F x)) l i () = stO (l.findSome? F) := by
  intro l
  induction l with
  | nil => intro i; rfl
  | cons x l ih =>
    intro i
    simp only [itL, List.findSome?_cons]
    cases F x with
    | none => exact ih _
    | some r => rfl

theorem WqR.back {lo : Nat} {h h1 : H} {e : TypeId} {s : Nat} {v : Value} {l l' : List (List Value)} (a : WqR lo h e s v l) (a' : WqR lo h1 e s v l') (hb : ∀ b, b < h.nx → h1.blk b = h.blk b) : WqR lo h e s v l' := by
  cases a' with
  | nil => exact .nil
  | @at_ b c m l' junk hlo hb' hr hx hm hj hc =>
    have hlt := (a.blkOf (b := b) rfl).2.1
    exact .at_ hlo hlt ((hb b hlt).symm.trans hr) hx hm hj hc

theorem SlR.keepV {h h' : H} {e : TypeId} {s : Nat} {v : Value} {l : List (List Value)} (a : SlR h e s v l) (hn : h.nx ≤ h'.nx) (hb : ∀ b, blkOf v = some b → h'.blk b = h.blk b) : SlR h' e s v l := by
  cases a with
  | nil => exact .nil
  | at_ hb' hr hk hc hl hx => exact .at_ (Nat.lt_of_lt_of_le hb' hn) ((hb _ rfl).trans hr) hk hc hl hx

/-- What the search holds. -/
structure FS (lo : Nat) (p e : Int) (set : Nat) (sl : Value) (l : List Sp) (tb sb vb gb : Nat) (b : List Int) (v : Value) (g : H) : Prop where
  lo_ : lo ≤ g.nx
  hsl : SlR g 67 4 sl (l.map Sp.cells)
  slo : ∀ b, blkOf sl = some b → b < lo ∧ b ≠ vb
  htb : tb < lo ∧ g.blk tb = some (.row [iv p, iv e, sl] 52 true)
  hsb : sb < lo ∧ g.blk sb = some (.row [iv set] 3 true)
  hgb : gb < lo ∧ g.blk gb = some (.row [.func (.func 98) #[] #[pt vb 0, pt tb 0, pt sb 0, pt gb 0]] 27 true)
  hvb : vb < lo ∧ g.blk vb = some (.row [v] 22 true)
  ne : vb ≠ tb ∧ vb ≠ sb ∧ vb ≠ gb
  way : WqR lo g 3 1 v (cellsI b)
  rng : ∀ x ∈ b, 0 ≤ x ∧ x < p

section
variable {lo : Nat} {p e : Int} {set : Nat} {sl v : Value} {l : List Sp} {tb sb vb gb : Nat} {b : List Int} {g : H}

theorem FS.turn (fs : FS lo p e set sl l tb sb vb gb b v g) {g' : H} {b' : List Int} {v' : Value} (hn : g.nx ≤ g'.nx) (hf : ∀ k, k < lo → k ≠ vb → g'.blk k = g.blk k) (hv : g'.blk vb = some (.row [v'] 22 true))
    (ha : WqR lo g' 3 1 v' (cellsI b')) (hr : ∀ x ∈ b', 0 ≤ x ∧ x < p) : FS lo p e set sl l tb sb vb gb b' v' g' :=
  ⟨Nat.le_trans fs.lo_ hn, fs.hsl.keepV hn fun b hb => hf b (fs.slo b hb).1 (fs.slo b hb).2, fs.slo, ⟨fs.htb.1, (hf _ fs.htb.1 (Ne.symm fs.ne.1)).trans fs.htb.2⟩, ⟨fs.hsb.1, (hf _ fs.hsb.1 (Ne.symm fs.ne.2.1)).trans fs.hsb.2⟩,
    ⟨fs.hgb.1, (hf _ fs.hgb.1 (Ne.symm fs.ne.2.2)).trans fs.hgb.2⟩, ⟨fs.hvb.1, hv⟩, fs.ne, ha, hr⟩

theorem FS.ext (fs : FS lo p e set sl l tb sb vb gb b v g) {g' : H} (x : Ext g g') : FS lo p e set sl l tb sb vb gb b v g' :=
  fs.turn x.nx (fun k hk _ => x.blk k (by have := fs.lo_; omega)) ((x.blk _ (by have := fs.lo_; have := fs.hvb.1; omega)).trans fs.hvb.2) (fs.way.keep x.nx fun b hb => x.blk b (fs.way.blkOf hb).2.1) fs.rng

theorem FS.trunc (fs : FS lo p e set sl l tb sb vb gb b v g) {g1 : H} {b' : List Int} {v' w : Value} (f1 : FS lo p e set sl l tb sb vb gb b' v' g1) (hn : g.nx ≤ g1.nx) (hf : ∀ k, k < lo → k ≠ vb → g1.blk k = g.blk k) :
    ∃ g', trunc Try.prog g g1 w = g' ∧ FS lo p e set sl l tb sb vb gb b' v' g' ∧ g.nx ≤ g'.nx ∧ ∀ k, k < lo → k ≠ vb → g'.blk k = g.blk k := by
  unfold AM.trunc
  split
  · rename_i h
    refine ⟨g, rfl, ?_, Nat.le_refl _, fun _ _ _ => rfl⟩
    have h1 := (h.2 vb (by have := fs.lo_; have := fs.hvb.1; omega)).symm.trans f1.hvb.2
    have hvv : v = v' := by
      have := fs.hvb.2.symm.trans h1
      simp at this
      exact this
    subst hvv
    exact fs.turn (Nat.le_refl _) (fun _ _ _ => rfl) h1 (fs.way.back f1.way h.2) f1.rng
  · exact ⟨g1, rfl, f1, hn, hf⟩

theorem getI (a : WqR lo g 3 1 v (cellsI b)) {i : Int} (h0 : 0 ≤ i) (h1 : i < b.length) (K : Value → Option R) : (six v i 1 fun x o => (g.cell x o).bind K) = K (iv (atI b i)) := by
  have hg : b[i.toNat]? = some (atI b i) := by
    unfold atI
    rw [List.getElem?_eq_getElem (by omega)]
    rfl
  exact a.slR.c0 h0 (x := [iv (atI b i)]) (by simp [hg]) rfl K

/-- The inner loop: is what the newest time has to keep kept? -/
theorem fits_loop (hv : tabOk p e l = true) (hset : set < 2 ^ 62) {n : Nat} (hbn : b.length = n + 1) (fs : FS lo p e set sl l tb sb vb gb b v g) :
    ∃ g', lpGo (f98_l2 rn 200010 (pt vb 0) (pt tb 0) (pt sb 0) n sl l.length) 200010 [.bool true, iv 0] g = some (.exit 2, [.bool (fitsP p l set b), iv l.length], g') ∧ Ext g g' := by
  have hl12 : l.length ≤ 12 := by simp [tabOk] at hv; omega
  obtain ⟨hp1, hp12⟩ := tab_p hv
  obtain ⟨ws', g', hl, xg, rfl⟩ := lp_for (F := f98_l2 rn 200010 (pt vb 0) (pt tb 0) (pt sb 0) n sl l.length) (k := 200010) (l := l) (fitS p set b)
    (fun i q ws g' => Ext g g' ∧ ws = [.bool q, iv i]) 2 (ws := [.bool true, iv 0]) (h := g) (s0 := true)
    ⟨.refl _, rfl⟩ (by omega)
    (by
      rintro q ws g' ⟨_, rfl⟩
      simp [f98_l2])
    (by
      rintro i c q ws g1 hc ⟨x1, rfl⟩
      have hi := (List.getElem?_eq_some_iff.1 hc).1
      have hadd : add .i64 (i : Int) 1 = (i : Int) + 1 := add64 (by omega) (by omega)
      have x2 := (Ext.refl g1).fresh 67 [iv 0, iv 0, iv 0, iv 0] c.cells
      have hcb := blk_fresh g1 67 [iv 0, iv 0, iv 0, iv 0] c.cells
      refine ⟨[.bool (fitS p set b i c q), iv ((i : Int) + 1)], g1.fresh 67 [iv 0, iv 0, iv 0, iv 0] c.cells, ?_, x1.trans x2, rfl⟩
      have f2 := fs.ext (x1.trans x2)
      unfold f98_l2
      rw [show AM.gv [.bool q, iv i] 1 = iv i from rfl, asI_int, lt_t (by omega), ifB_true, asK_int, (fs.hsl.ext x1).ldA ag67 sz67 (by omega) (x := c.cells) (by simp [hc]),
        al_st (zs := [iv 0, iv 0, iv 0, iv 0]) (xs := c.cells) sz67 rfl rfl]
      generalize g1.fresh 67 [iv 0, iv 0, iv 0, iv 0] c.cells = h7 at *
      simp only [Sp.cells] at hcb
      have hok : spOk e c = true := by
        simp only [tabOk, Bool.and_eq_true, List.all_eq_true] at hv
        exact hv.2 _ (List.mem_of_getElem? hc)
      simp only [spOk, Bool.and_eq_true, decide_eq_true_iff] at hok
      have hbit : AM.and .i64 (shr .i64 (set : Int) (i : Int)) 1 = if set.testBit i then 1 else 0 := bit_nat (by omega) (by omega)
      by_cases hs : set.testBit i = true
      · by_cases hm : imax c.a c.b = n
        · have hab : c.a < b.length ∧ c.b < b.length := by unfold imax at hm; split at hm <;> omega
          have ea := fun (K : Value → Option (Ex × List Value × H)) => getI f2.way (i := c.a) (by omega) hab.1 K
          have eb := fun (K : Value → Option (Ex × List Value × H)) => getI f2.way (i := c.b) (by omega) hab.2 K
          have hra : 0 ≤ atI b c.a ∧ atI b c.a < p := by
            have : b[c.a.toNat]? = some (atI b c.a) := by unfold atI; rw [List.getElem?_eq_getElem (by omega)]; rfl
            exact fs.rng _ (List.mem_of_getElem? this)
          have hrb : 0 ≤ atI b c.b ∧ atI b c.b < p := by
            have : b[c.b.toNat]? = some (atI b c.b) := by unfold atI; rw [List.getElem?_eq_getElem (by omega)]; rfl
            exact fs.rng _ (List.mem_of_getElem? this)
          have c82 := fun (K : Value → H → Option (Ex × List Value × H)) => calls_eq (K := K) (xs := [.agg #[iv p, iv e, sl], .agg #[iv c.a, iv c.b, iv c.lo, iv c.hi], iv (atI b c.a), iv (atI b c.b)]) (s82 (e := e) (sl := sl) (c := c) (h := h7) ⟨hp1, hp12⟩ (by omega) hra hrb)
          have hfit : fitS p set b i c q = (q && keepP p c (atI b c.a) (atI b c.b)) := if_pos ⟨hs, by omega⟩
          cases q with
          | false => simp [cell_of f2.hsb.2, hbit, hs, cell_of hcb, nn, hm, hfit, hadd]
          | true => simp [cell_of f2.hsb.2, rd_of f2.htb.2, rd_of hcb, cell_of f2.hvb.2, hbit, hs, cell_of hcb, nn, hm, hfit, hadd, ea, eb, c82]
        · have hfit : fitS p set b i c q = q := if_neg (by rintro ⟨_, h⟩; omega)
          simp [cell_of f2.hsb.2, hbit, hs, cell_of hcb, nn, hm, hfit, hadd]
      · have hfit : fitS p set b i c q = q := if_neg (by rintro ⟨h, _⟩; exact hs h)
        simp [cell_of f2.hsb.2, hbit, hs, nn, hfit, hadd])
  exact ⟨g', hl, xg⟩

/-- What the search does with some times. -/
theorem s98 (hv : tabOk p e l = true) (hset : set < 2 ^ 62) : ∀ (d : Nat) (b : List Int) (v : Value) (g : H), (b.length + d : Int) = e → FS lo p e set sl l tb sb vb gb b v g →
    ∃ g' v', rn 98 #[pt vb 0, pt tb 0, pt sb 0, pt gb 0] g = some (.bool (firstP p l set d b).isSome, g') ∧ FS lo p e set sl l tb sb vb gb ((firstP p l set d b).getD b) v' g' ∧ g.nx ≤ g'.nx ∧ ∀ k, k < lo → k ≠ vb → g'.blk k = g.blk k := by
  obtain ⟨hp1, hp12⟩ := tab_p hv
  have he6 : e ≤ 6 := by simp [tabOk] at hv; omega
  intro d
  induction d with
  | zero =>
    intro b v g hd fs
    have hbn : ∀ {T : Type} (K : Int → Option T), len v K = K (b.length : Int) := fun K => by rw [fs.way.slR.len]; simp
    have hF : f98 rn 200010 (pt vb 0) (pt tb 0) (pt sb 0) (pt gb 0) g = some (.bool (firstP p l set 0 b).isSome, g) := by
      have : (b.length : Int) = e := by omega
      simp [f98, cell_of fs.hvb.2, cell_of fs.htb.2, hbn, this, firstP]
    exact ⟨g, v, p98 hF rfl (.refl _), fs, Nat.le_refl _, fun _ _ _ => rfl⟩
  | succ d ih =>
    intro b v g hd fs
    have hbn : ∀ {T : Type} (K : Int → Option T), len v K = K (b.length : Int) := fun K => by rw [fs.way.slR.len]; simp
    obtain ⟨ee, ws', g', hlp, hres⟩ := lp_rel (σ := Unit) (ρ := List Int) (F := f98_l1 rn 200010 (pt vb 0) (pt tb 0) (pt sb 0) (pt gb 0) b.length p) (k := 200010) (l := List.range p.toNat)
      (fun _ (x : Nat) _ => stO (if fitsP p l set (b ++ [(x : Int)]) = true then firstP p l set d (b ++ [(x : Int)]) else none))
      (fun i _ ws g' => (∃ v', FS lo p e set sl l tb sb vb gb b v' g') ∧ g.nx ≤ g'.nx ∧ (∀ k, k < lo → k ≠ vb → g'.blk k = g.blk k) ∧ ws = [.bool false, iv i])
      (fun r ee ws g' => ee = .ret ∧ (∃ v', FS lo p e set sl l tb sb vb gb r v' g') ∧ g.nx ≤ g'.nx ∧ (∀ k, k < lo → k ≠ vb → g'.blk k = g.blk k) ∧ ∃ a, ws = [.bool true, a]) 0 (ws := [.bool false, iv 0]) (h := g) (s0 := ())
      ⟨⟨v, fs⟩, Nat.le_refl _, fun _ _ _ => rfl, rfl⟩ (by simp; omega)
      (by
        rintro _ ws g' ⟨_, _, _, rfl⟩
        rw [List.length_range, show ((p.toNat : Nat) : Int) = p by omega]
        simp [f98_l1])
      (by
        rintro i x _ ws g1 hx ⟨⟨v1, f1⟩, n1, k1, rfl⟩
        have hi := (List.getElem?_eq_some_iff.1 hx).1
        rw [List.length_range] at hi
        rw [List.getElem?_range hi] at hx
        cases hx
        have hip : (i : Int) < p := by omega
        have hadd : add .i64 (i : Int) 1 = (i : Int) + 1 := add64 (by omega) (by omega)
        -- one time more
        obtain ⟨v2, g2, e2, a2, n2, k2, b2, hb2, hb2'⟩ := f1.way.push app22 app22 (bls22 (i : Int)) rfl rfl (by simp; omega) f1.lo_
        have hvb2 : g2.blk vb = some (.row [v1] 22 true) := (k2 vb (by have := f1.lo_; have := f1.hvb.1; omega) (fun h => by have := (f1.way.blkOf h).1; have := f1.hvb.1; omega)).trans f1.hvb.2
        have hw : wrc 1 g2 vb 0 v2 = some (g2.set vb (.row [v2] 22 true)) := by rw [wrc_one hvb2 a2.cells.1 a2.cells.2 (by simp)]; rfl
        have f3 : FS lo p e set sl l tb sb vb gb (b ++ [(i : Int)]) v2 (g2.set vb (.row [v2] 22 true)) := by
          refine f1.turn n2 (fun k hk hne => ?_) (blk_set_self _ _ _) ?_ (fun x hx => ?_)
          · rw [blk_set_ne _ _ _ hne]
            exact k2 k (by have := f1.lo_; omega) (fun h => by have := (f1.way.blkOf h).1; omega)
          · have := a2.keep (h' := g2.set vb (.row [v2] 22 true)) (Nat.le_refl _) fun b hb => blk_set_ne _ _ _ (by
              have := (a2.blkOf hb).1
              have := f1.hvb.1
              omega)
            simpa using this
          · rcases List.mem_append.1 hx with h | h
            · exact fs.rng x h
            · simp at h; omega
        have k3 : ∀ k, k < lo → k ≠ vb → (g2.set vb (.row [v2] 22 true)).blk k = g1.blk k := fun k hk hne => by
          rw [blk_set_ne _ _ _ hne]
          exact k2 k (by have := f1.lo_; omega) (fun h => by have := (f1.way.blkOf h).1; omega)
        have n3 : g1.nx ≤ (g2.set vb (.row [v2] 22 true)).nx := n2
        generalize g2.set vb (.row [v2] 22 true) = g3 at *
        obtain ⟨g4, hl4, x4⟩ := fits_loop hv hset (n := b.length) (by simp) f3
        have f4 := f3.ext x4
        have k4 : ∀ k, k < lo → k ≠ vb → g4.blk k = g1.blk k := fun k hk hne => (x4.blk k (by have := f3.lo_; omega)).trans (k3 k hk hne)
        have n4 : g1.nx ≤ g4.nx := by have := x4.nx; omega
        have hsn : ∀ {T : Type} (K : Int → Option T), len sl K = K (l.length : Int) := fun K => by rw [fs.hsl.len]; simp
        -- and without it again
        have back : ∀ (v5 : Value) (h5 : H), FS lo p e set sl l tb sb vb gb (b ++ [(i : Int)]) v5 h5 → ∃ v6, (∀ (K : Value → Option (Ex × List Value × H)), sli Try.prog h5 22 v5 none (some (iv b.length)) none K = K v6) ∧
            wrc 1 h5 vb 0 v6 = some (h5.set vb (.row [v6] 22 true)) ∧ FS lo p e set sl l tb sb vb gb b v6 (h5.set vb (.row [v6] 22 true)) ∧ (∀ k, k < lo → k ≠ vb → (h5.set vb (.row [v6] 22 true)).blk k = h5.blk k) := by
          intro v5 h5 f5
          have hway : WqR lo h5 3 1 v5 (cellsI b ++ [[iv (i : Int)]]) := by simpa using f5.way
          obtain ⟨v6, e6, a6, b6⟩ := hway.pop under22 sz3
          refine ⟨v6, fun K => ?_, by rw [wrc_one f5.hvb.2 a6.cells.1 a6.cells.2 (by simp)]; rfl, ?_, fun k _ hne => blk_set_ne _ _ _ hne⟩
          · have := e6 K
            rw [List.length_map] at this
            exact this
          · exact f5.turn (Nat.le_refl _) (fun k _ hne => blk_set_ne _ _ _ hne) (blk_set_self _ _ _) (a6.keep (Nat.le_refl _) fun b hb => blk_set_ne _ _ _ (by
              have := (a6.blkOf hb).1
              have := f5.hvb.1
              omega)) fs.rng
        by_cases hfit : fitsP p l set (b ++ [(i : Int)]) = true
        · rw [if_pos hfit]
          rw [hfit] at hl4
          obtain ⟨g5, v5, e98, f5, n5, k5⟩ := ih (b ++ [(i : Int)]) v2 g4 (by simp; omega) f4
          have cc := fun (K : Value → H → Option (Ex × List Value × H)) => calls_eq (K := K) (xs := [pt vb 0, pt tb 0, pt sb 0, pt gb 0]) e98
          cases hfr : firstP p l set d (b ++ [(i : Int)]) with
          | some r =>
            rw [hfr] at cc f5
            simp only [Option.getD_some, Option.isSome_some] at cc f5
            simp only [stO]
            refine ⟨.ret, [.bool true, iv i], g5, ?_, by simp, rfl, ⟨v5, f5⟩, by omega, fun k hk hne => by rw [k5 k hk hne, k4 k hk hne, k1 k hk hne], _, rfl⟩
            simp [f98_l1, hip, cell_of f1.hvb.2, e2, hw, cell_of f3.htb.2, hsn, lp_eq hl4, cell_of f4.hgb.2, callsV_eq, cc]
          | none =>
            rw [hfr] at cc f5
            simp only [Option.getD_none, Option.isSome_none] at cc f5
            simp only [stO]
            obtain ⟨v6, e6, w6, f6, k6⟩ := back v5 g5 f5
            refine ⟨.normal, [.bool false, iv ((i : Int) + 1)], g5.set vb (.row [v6] 22 true), ?_, rfl, ⟨v6, f6⟩, by rw [nx_set]; omega, fun k hk hne => by rw [k6 k hk hne, k5 k hk hne, k4 k hk hne, k1 k hk hne], rfl⟩
            simp [f98_l1, hip, cell_of f1.hvb.2, e2, hw, cell_of f3.htb.2, hsn, lp_eq hl4, cell_of f4.hgb.2, callsV_eq, cc, cell_of f5.hvb.2, e6, w6, hadd]
        · rw [if_neg hfit]
          simp only [stO]
          have hff : fitsP p l set (b ++ [(i : Int)]) = false := by simpa using hfit
          rw [hff] at hl4
          obtain ⟨v6, e6, w6, f6, k6⟩ := back v2 g4 f4
          refine ⟨.normal, [.bool false, iv ((i : Int) + 1)], g4.set vb (.row [v6] 22 true), ?_, rfl, ⟨v6, f6⟩, by rw [nx_set]; omega, fun k hk hne => by rw [k6 k hk hne, k4 k hk hne, k1 k hk hne], rfl⟩
          simp [f98_l1, hip, cell_of f1.hvb.2, e2, hw, cell_of f3.htb.2, hsn, lp_eq hl4, cell_of f4.hvb.2, e6, w6, hadd])
    have hstart : f98 rn 200010 (pt vb 0) (pt tb 0) (pt sb 0) (pt gb 0) g = onE ee 0 (some ((.bool false), g')) (onR ee (some (AM.gv ws' 0, g'))) := by
      rw [← lp_eq (K := fun ee ws' g => onE ee 0 (some ((.bool false), g)) (onR ee (some (AM.gv ws' 0, g)))) hlp]
      have : ¬ (b.length : Int) = e := by omega
      simp [f98, cell_of fs.hvb.2, cell_of fs.htb.2, hbn, this]
    rw [itL_find] at hres
    have hdef : firstP p l set (d + 1) b = (List.range p.toNat).findSome? fun (x : Nat) => if fitsP p l set (b ++ [(x : Int)]) = true then firstP p l set d (b ++ [(x : Int)]) else none := rfl
    rw [← hdef] at hres
    cases hfr : firstP p l set (d + 1) b with
    | none =>
      rw [hfr] at hres
      simp only [stO] at hres
      obtain ⟨rfl, ⟨v', f'⟩, n', k', rfl⟩ := hres
      obtain ⟨g2, e2, f2, n2, k2⟩ := fs.trunc (w := .bool false) f' n' k'
      refine ⟨g2, v', ?_, f2, n2, k2⟩
      rw [t98 (k := 200010) (v := .bool false) (h1 := g') (by rw [hstart]; simp), e2]
      rfl
    | some r =>
      rw [hfr] at hres
      simp only [stO] at hres
      obtain ⟨_, rfl, ⟨v', f'⟩, n', k', a, rfl⟩ := hres
      obtain ⟨g2, e2, f2, n2, k2⟩ := fs.trunc (w := .bool true) f' n' k'
      refine ⟨g2, v', ?_, f2, n2, k2⟩
      rw [t98 (k := 200010) (v := .bool true) (h1 := g') (by rw [hstart]; simp), e2]
      rfl

end

theorem firstP_len {p : Int} {l : List Sp} {set : Nat} : ∀ (d : Nat) (b r : List Int), firstP p l set d b = some r → r.length = b.length + d := by
  intro d
  induction d with
  | zero => intro b r h; cases h; rfl
  | succ d ih =>
    intro b r h
    simp only [firstP] at h
    obtain ⟨x, hx, h2⟩ := List.exists_of_findSome?_eq_some h
    split at h2
    · have := ih _ _ h2
      simp at this
      omega
    · cases h2

/-- The first timetable. -/
theorem s77 {p e : Int} {set : Nat} {sl : Value} {l : List Sp} {h : H} (hv : tabOk p e l = true) (hset : set < 2 ^ 62) (hs : SlR h 67 4 sl (l.map Sp.cells)) :
    ∃ v' h', rn 77 #[.agg #[iv p, iv e, sl], iv set] h = some (v', h') ∧ Ext h h' ∧ ((firstP p l set e.toNat [] = none ∧ v' = .slice none 0 0) ∨ (∃ r, firstP p l set e.toNat [] = some r ∧ r.length = e.toNat ∧ SlR h' 3 1 v' (cellsI r))) := by
  have he : 1 ≤ e ∧ e ≤ 6 := by simp only [tabOk, Bool.and_eq_true, decide_eq_true_iff] at hv; omega
  let h3 := ((h.new (.row [iv p, iv e, sl] 52 true)).new (.row [iv set] 3 true)).new (.row [.slice none 0 0] 22 true)
  have x3 : Ext h h3 := (((Ext.refl h).new' _).new' _).new' _
  have n3 : h3.nx = h.nx + 3 := rfl
  have t3 : h3.blk h.nx = some (.row [iv p, iv e, sl] 52 true) := by simp [h3]
  have s3 : h3.blk (h.nx + 1) = some (.row [iv set] 3 true) := by simp [h3]
  have v3 : h3.blk (h.nx + 2) = some (.row [.slice none 0 0] 22 true) := by simp [h3]
  have hF0 : ∀ (v : Value) (gg : H), (AM.al h3 27 [.nilFunc] fun h4 => AM.st Try.prog h4 27 (AM.nx h3) 0 (.func (.func 98) #[] #[pt (h.nx + 2) 0, pt h.nx 0, pt (h.nx + 1) 0, pt (h.nx + 3) 0]) fun h5 => AM.ld Try.prog h5 27 (AM.nx h3) 0 fun v1 =>
      callsV rn h5 v1 [] fun v2 h6 => asB v2 fun q0 => ifB (!q0) (some ((.slice none 0 0), h6)) (AM.ld Try.prog h6 22 (h.nx + 2) 0 fun v3 => some (v3, h6))) = some (v, gg) → f77 rn 0 (.agg #[iv p, iv e, sl]) set h = some (v, gg) := fun v gg hv => hv
  rw [al_st1 (v := .func (.func 98) #[] #[pt (h.nx + 2) 0, pt h.nx 0, pt (h.nx + 1) 0, pt (h.nx + 3) 0]) sz27 rfl rfl] at hF0
  have x4 := (Ext.refl h3).fresh 27 [.nilFunc] [.func (.func 98) #[] #[pt (h.nx + 2) 0, pt h.nx 0, pt (h.nx + 1) 0, pt (h.nx + 3) 0]]
  have g4 := blk_fresh h3 27 [.nilFunc] [.func (.func 98) #[] #[pt (h.nx + 2) 0, pt h.nx 0, pt (h.nx + 1) 0, pt (h.nx + 3) 0]]
  have n4 : (h3.fresh 27 [.nilFunc] [.func (.func 98) #[] #[pt (h.nx + 2) 0, pt h.nx 0, pt (h.nx + 1) 0, pt (h.nx + 3) 0]]).nx = h.nx + 4 := rfl
  generalize h3.fresh 27 [.nilFunc] [.func (.func 98) #[] #[pt (h.nx + 2) 0, pt h.nx 0, pt (h.nx + 1) 0, pt (h.nx + 3) 0]] = g at *
  have xg := x3.trans x4
  rw [n3] at g4
  have fs : FS (h.nx + 4) p e set sl l h.nx (h.nx + 1) (h.nx + 2) (h.nx + 3) [] (.slice none 0 0) g := by
    refine ⟨by omega, hs.ext xg, fun b hb => ?_, ⟨by omega, (x4.blk _ (by omega)).trans t3⟩, ⟨by omega, (x4.blk _ (by omega)).trans s3⟩, ⟨by omega, g4⟩, ⟨by omega, (x4.blk _ (by omega)).trans v3⟩, ⟨by omega, by omega, by omega⟩, .nil, by simp⟩
    obtain ⟨x, n, c, hsl⟩ := hs.isSl
    have := hs.below
    rcases x with _ | ⟨xb, xo, xs⟩
    · rw [hsl] at hb; cases hb
    · rw [hsl] at hb
      cases xs with
      | none =>
        cases hb
        have := this _ _ _ _ hsl
        omega
      | some _ => cases hb
  obtain ⟨g', v', e98, f', n', k'⟩ := s98 hv hset e.toNat [] (.slice none 0 0) g (by simp; omega) fs
  have xg' : Ext h g' := ⟨by have := xg.nx; omega, fun b hb => (k' b (by omega) (by omega)).trans (xg.blk b hb)⟩
  have cc := fun (K : Value → H → Option (Value × H)) => calls_eq (K := K) (xs := [pt (h.nx + 2) 0, pt h.nx 0, pt (h.nx + 1) 0, pt (h.nx + 3) 0]) e98
  cases hfr : firstP p l set e.toNat [] with
  | none =>
    rw [hfr] at cc f'
    refine ⟨.slice none 0 0, g', x77 (hF0 _ _ ?_) rfl, xg', .inl ⟨rfl, rfl⟩⟩
    simp [n3, cell_of g4, callsV_eq, cc]
  | some r =>
    rw [hfr] at cc f'
    simp only [Option.getD_some] at f'
    have hsr := f'.way.slR
    refine ⟨v', g', x77 (hF0 _ _ ?_) hsr.notR, xg', .inr ⟨r, rfl, by have := firstP_len _ _ _ hfr; simpa using this, hsr⟩⟩
    simp [n3, cell_of g4, callsV_eq, cc, cell_of f'.hvb.2]

end Go.AM

/- Parts of the proof, put together: the abstract machine, what the functions of the program answer, and plain laws. -/
import Derived.Test.YthmfjfblndophaaWd5

section
namespace Go.AM
open Go.Proofs
open Classical in
/-- Wide, told. -/
noncomputable def g53 (args : Array Value) (h : H) : Option (Value × H) :=
  match args.toList with
  | [v0, .int .i64 n0, .int .i64 n1] =>
    match f53H RG53 rn 1000 v0 n0 n1 h with
    | some (v, h1) => if plainO v = true ∧ Ext h h1 then some (v, h) else none
    | none => none
  | _ => none
open Classical in
/-- Block, told. -/
noncomputable def g54 (args : Array Value) (h : H) : Option (Value × H) :=
  match args.toList with
  | [v0, .int .i64 n0, .int .i64 n1] =>
    match f54 rcB 1000 v0 n0 n1 h with
    | some (v, h1) => if plainO v = true ∧ Ext h h1 then some (v, h) else none
    | none => none
  | _ => none
theorem g53_of {v0 v : Value} {n0 n1 : Int} {h h1 : H} (e : f53H RG53 rn 1000 v0 n0 n1 h = some (v, h1)) (hp : plainO v = true) (x : Ext h h1) : g53 #[v0, iv n0, iv n1] h = some (v, h) := by
  unfold g53
  simp only [e, if_pos (And.intro hp x)]
theorem g54_of {v0 v : Value} {n0 n1 : Int} {h h1 : H} (e : f54 rcB 1000 v0 n0 n1 h = some (v, h1)) (hp : plainO v = true) (x : Ext h h1) : g54 #[v0, iv n0, iv n1] h = some (v, h) := by
  unfold g54
  simp only [e, if_pos (And.intro hp x)]
theorem g53_sure (hmix : Try.prog.follows .mixedOrders = true) {args : Array Value} {h h' : H} {v : Value} (e : g53 args h = some (v, h')) : Sure Try.prog E0 53 args h v h' := by
  have hrec : SoundR Try.prog E0 rn := run_sound hmix
  obtain ⟨s, hs, h1, h2, h3, h4, h5, h6, h7, h8⟩ := rg53_is
  have hrg := rg53_ok hmix hs h1 h2 h3 h4 h5 h6 h7 h8
  unfold g53 at e
  split at e
  · rename_i v0 n0 n1 ha
    split at e
    · rename_i v1 hh e1
      split at e
      · rename_i hx
        simp only [Option.some.injEq, Prod.mk.injEq] at e
        obtain ⟨rfl, rfl⟩ := e
        have e2 := e1
        rw [← e53H] at e2
        have b := bodyH_calls hrec (draw_ok hmix hrec) hs hrg e2
        have ea : args = #[v0, iv n0, iv n1] := by
          cases args
          simp only at ha
          rw [ha]
        rw [ea]
        exact Sure.trunc b hx.1 fun q hq => hx.2.blk q hq
      · cases e
    · cases e
  · cases e
theorem rcB_sound (hmix : Try.prog.follows .mixedOrders = true) : SoundR Try.prog E0 rcB := over_sound (run_sound hmix) fun _ _ _ _ e => smR_sure (run_sound hmix) e
theorem g54_sure (hmix : Try.prog.follows .mixedOrders = true) {args : Array Value} {h h' : H} {v : Value} (e : g54 args h = some (v, h')) : Sure Try.prog E0 54 args h v h' := by
  unfold g54 at e
  split at e
  · rename_i v0 n0 n1 ha
    split at e
    · rename_i v1 hh e1
      split at e
      · rename_i hx
        simp only [Option.some.injEq, Prod.mk.injEq] at e
        obtain ⟨rfl, rfl⟩ := e
        have e2 := e1
        rw [← e54] at e2
        have b := body_sure hmix (rcB_sound hmix) e2 hx.1 hx.2
        have ea : args = #[v0, iv n0, iv n1] := by
          cases args
          simp only at ha
          rw [ha]
        rw [ea]
        exact b
      · cases e
    · cases e
  · cases e
/-- Wide and Block told. -/
noncomputable def rcW : Rec := over (over rn 53 g53) 54 g54
theorem rcW_sound (hmix : Try.prog.follows .mixedOrders = true) : SoundR Try.prog E0 rcW :=
  over_sound (over_sound (run_sound hmix) fun _ _ _ _ e => g53_sure hmix e) fun _ _ _ _ e => g54_sure hmix e
theorem rcW_ne {f : FuncId} (h1 : f ≠ 53) (h2 : f ≠ 54) {h : H} {xs : List Value} {R : Type} {K : Value → H → Option R} : calls rcW h f xs K = calls rn h f xs K := (calls_over h2).trans (calls_over h1)
/-- What Wide answers. -/
def widA (n : Int) (l : List Kl) (s t : Int) : Int × Int := if pairP n l s t = true then (wideP n l s t, 0) else (0, 2)
theorem k53 {n s t : Int} {sl : Value} {l : List Kl} {h : H} (hs : SlR h 56 3 sl (l.map Kl.cells)) {R : Type} (K : Value → H → Option R) : calls rcW h 53 [.agg #[iv n, sl], iv s, iv t] K = K (.tuple #[iv (widA n l s t).1, iv (widA n l s t).2]) h := by
  have : ∃ h', f53H RG53 rn 1000 (.agg #[iv n, sl]) s t h = some (.tuple #[iv (widA n l s t).1, iv (widA n l s t).2], h') ∧ Ext h h' := by
    unfold widA
    cases hp : pairP n l s t with
    | false => exact s53_bad hs hp
    | true => exact s53H hs hp (way_pos hp)
  obtain ⟨h', e, x⟩ := this
  exact (calls_over (by decide)).trans (calls_at (g53_of e rfl x))
theorem k54 {n s t : Int} {sl : Value} {l : List Kl} {h : H} (hs : SlR h 56 3 sl (l.map Kl.cells)) {R : Type} (K : Value → H → Option R) : calls rcW h 54 [.agg #[iv n, sl], iv s, iv t] K = K (.tuple #[iv (blkA n l s t).1, iv (blkA n l s t).2]) h := by
  obtain ⟨h', e, x⟩ := s54w (n := n) (s := s) (t := t) hs
  exact calls_at (g54_of e rfl x)
theorem s10 {n s t : Int} {sl : Value} {l : List Kl} {h : H} (hs : SlR h 59 3 sl (l.map Kl.cells)) : ∃ h', f10 rcW 0 (.agg #[iv n, sl]) s t h = some (.bool true, h') := by
  let h1 := h.new (.row [iv n, sl] 24 true)
  have x1 : Ext h h1 := .new _ _
  have b1 : h1.blk h.nx = some (.row [iv n, sl] 24 true) := blk_new_self _ _
  have n1 : h1.nx = h.nx + 1 := rfl
  obtain ⟨la, h2, e2, x2, s2⟩ := s18 (n := n) (hs.ext x1)
  have hx2 := x2.nx
  have b2 := (x2.blk h.nx (by omega)).trans b1
  obtain ⟨lb, h3, e3, x3, s3⟩ := s18 (n := n) ((hs.ext x1).ext x2)
  have hx3 := x3.nx
  have b3 := (x3.blk h.nx (by omega)).trans b2
  have hs3 := ((hs.ext x1).ext x2).ext x3
  have start : f10 rcW 0 (.agg #[iv n, sl]) s t h = asB (.bool (pairP n l s t)) fun q0 => ifB (!q0)
      (ifB (eq (widA n (l.take 26) s t).1 0) (ifB (eq (blkA n (l.take 26) s t).1 0) (ifB (eq (widA n (l.take 26) s t).2 2) (ifB (eq (blkA n (l.take 26) s t).2 2) (some (.bool true, h3)) (some (.bool false, h3))) (some (.bool false, h3))) (some (.bool false, h3))) (some (.bool false, h3)))
      (ld Try.prog h3 24 h.nx 0 fun v14 => calls rn h3 55 [v14, iv s, iv t] fun v15 h8 => ext v15 0 fun v16 => asI .i64 v16 fun n6 => ext v15 1 fun v17 => asI .i64 v17 fun n7 =>
        ld Try.prog h8 24 h.nx 0 fun v18 => calls rn h8 56 [v18, iv s, iv t] fun v19 h9 => asI .i64 v19 fun n8 =>
        ifB (eq (widA n (l.take 26) s t).1 n8) (ifB (eq (widA n (l.take 26) s t).2 0) (ifB (eq (blkA n (l.take 26) s t).1 n6) (ifB (eq (blkA n (l.take 26) s t).2 n7) (some (.bool true, h9)) (some (.bool false, h9))) (some (.bool false, h9))) (some (.bool false, h9))) (some (.bool false, h9))) := by
    unfold f10
    rw [bx_eq, nx_eq, show (Value.agg #[iv n, sl]).cells.toList = [iv n, sl] from rfl]
    show ld Try.prog h1 24 h.nx 0 _ = _
    rw [d24, rd_all (n := 2) b1 rfl, Option.bind_some, rcW_ne (by decide) (by decide)]
    refine (calls_eq (xs := [_]) e2).trans ?_
    rw [k53 s2, ext20, asI_int, ext21, asI_int, d24, rd_all (n := 2) b2 rfl, Option.bind_some, rcW_ne (by decide) (by decide)]
    refine (calls_eq (xs := [_]) e3).trans ?_
    rw [k54 s3, ext20, asI_int, ext21, asI_int, d24, rd_all (n := 2) b3 rfl, Option.bind_some, rcW_ne (by decide) (by decide)]
    refine (calls_eq (xs := [_, _, _]) (s21 (n := n) (s := s) (t := t) hs3)).trans ?_
    have k22' : ∀ (h : H) (K : Value → H → Option (Value × H)), calls rcW h 22 [] K = K (.bool true) h := fun h K => (rcW_ne (by decide) (by decide)).trans (k22 h K)
    have k55' : ∀ (h : H) (xs : List Value) (K : Value → H → Option (Value × H)), calls rcW h 55 xs K = calls rn h 55 xs K := fun h xs K => rcW_ne (by decide) (by decide)
    have k56' : ∀ (h : H) (xs : List Value) (K : Value → H → Option (Value × H)), calls rcW h 56 xs K = calls rn h 56 xs K := fun h xs K => rcW_ne (by decide) (by decide)
    simp only [k22', k55', k56', asB_bool]
  cases hp : pairP n l s t with
  | false =>
    have hp26 : pairP n (l.take 26) s t = false := by rw [pairP_take]; exact hp
    refine ⟨h3, ?_⟩
    rw [start]
    unfold widA blkA
    rw [hp, hp26]
    rfl
  | true =>
    have hl : l.take 26 = l := List.take_of_length_le (by have := (validP_ok (pairP_parts hp).1).2.2.1; omega)
    refine ⟨h3, ?_⟩
    rw [start, hl, hp, asB_bool, Bool.not_true, ifB_false, d24, rd_all (n := 2) b3 rfl, Option.bind_some]
    refine (calls_eq (xs := [_, _, _]) (s55 hs3 hp)).trans ?_
    rw [ext20, asI_int, ext21, asI_int, d24, rd_all (n := 2) b3 rfl, Option.bind_some]
    refine (calls_eq (xs := [_, _, _]) (s56 hs3 hp)).trans ?_
    rw [asI_int, ← wide_ref hp]
    have ew : widA n l s t = (wideP n l s t, 0) := by unfold widA; rw [hp]; rfl
    rw [ew, eq_t rfl, ifB_true, eq_t rfl, ifB_true, eq_t rfl, ifB_true, eq_t rfl, ifB_true]
end Go.AM
end

section
namespace Go.AM
open Go.Proofs Go.ChangeShapes
variable {HH : Type} {enc : TypeId × Value → HH} {w : World} {base : Nat} {held : Bool}
noncomputable def fields59 : Array Field := match Try.prog.underlying 59 with
  | some (.struct fs) => fs
  | _ => #[]
theorem under59 : Try.prog.underlying 59 = some (.struct fields59) := by kernel_rfl
theorem fields59_types : fields59.toList.map (fun f => (f.type, f.offset)) = [(3, 0), (3, 1), (3, 2)] := by kernel_rfl
theorem cellsOf3 : Try.prog.cellsOf 3 = 1 := by kernel_rfl
theorem cellsOf59 : Try.prog.cellsOf 59 = 3 := by kernel_rfl
theorem flat59 (n : Nat) (cs : List Value) (x : DataW HH × List MemPlace) (h : DataW.trod enc Try.prog w base (fun _ => true) held n 59 cs = some x) : ∃ c : Kl, cs = c.cells := by
  obtain ⟨a, b, t, e⟩ := trod_three under59 fields59_types (show Try.prog.underlying 3 = some (.int .i64) from by kernel_rfl) cellsOf3 cellsOf59 h
  exact ⟨⟨a, b, t⟩, e⟩
/-- Rows that are cells of calls are the cells of a list of calls. -/
theorem calls_of : ∀ (l : List (List Value)), (∀ x ∈ l, ∃ c : Kl, x = c.cells) → ∃ l' : List Kl, l = l'.map Kl.cells := by
  intro l
  induction l with
  | nil => intro _; exact ⟨[], rfl⟩
  | cons x l ih =>
    intro h
    obtain ⟨c, hc⟩ := h x (by simp)
    obtain ⟨l', hl⟩ := ih (fun y hy => h y (List.mem_cons_of_mem _ hy))
    exact ⟨c :: l', by rw [hc, hl]; rfl⟩
noncomputable def fields24 : Array Field := match Try.prog.underlying 24 with
  | some (.struct fs) => fs
  | _ => #[]
noncomputable def field24 (i : Nat) : Field := fields24[i]!
theorem under24s : Try.prog.underlying 24 = some (.struct fields24) := by kernel_rfl
theorem fields24_eq : fields24 = #[field24 0, field24 1] := by kernel_rfl
theorem field24_0 : ((field24 0).type, (field24 0).offset) = (3, 0) := by kernel_rfl
theorem field24_1 : ((field24 1).type, (field24 1).offset) = (22, 1) := by kernel_rfl
theorem under3 : Try.prog.underlying 3 = some (.int .i64) := by kernel_rfl
theorem under22L : Try.prog.underlying 22 = some (.slice 59) := by kernel_rfl
theorem cellsOf24 : Try.prog.cellsOf 24 = 2 := by kernel_rfl
theorem cellsOf22 : Try.prog.cellsOf 22 = 1 := by kernel_rfl
theorem bytes59 : Try.prog.bytesOf 59 = 24 := by kernel_rfl
theorem types24 : Try.prog.cellTypes Try.prog.depth 24 = some [3, 22] := by kernel_rfl
set_option maxRecDepth 100000 in
/-- A log that came in. -/
theorem open_log {rr : Reach} {b0 : Nat} {v : Value} {d : DataW HH} {ps : List MemPlace} (hv : Value.okWide Try.prog w rr b0 24 v) (hwt : ∀ x ∈ d.weights Try.prog 24, x ≤ reachBytes)
    (hd : DataW.Trod enc Try.prog w base (fun _ => true) held 24 v d ps) {ι : Nat → Emb} {h : H} (r : Rel Try.prog E0 ι h w) (hro : ∀ b k, h.blk b = some k → k.own = false) :
    ∃ (n : Int) (sl sl0 : Value) (ι' : Nat → Emb) (h' : H) (l : List Kl), v = .agg #[iv n, sl] ∧ (Lit.int .i64 n).wf = true ∧ Rel Try.prog E0 ι' h' w ∧ (∀ b k, h'.blk b = some k → k.own = false) ∧ Ext h h' ∧ (∀ b, b < h.nx → ι' b = ι b) ∧
      VR ι' h'.nx sl0 sl ∧ SlR h' 59 3 sl0 (l.map Kl.cells) := by
  obtain ⟨n, a, len, cap, d1, p1, rfl, hn, hw1, hhas, hd1⟩ := open_numslice under24s fields24_eq (Prod.mk.inj field24_0) (Prod.mk.inj field24_1) under3 under22L cellsOf24 cellsOf3 cellsOf22 types24 hv hwt hd
  obtain ⟨ι', h', v0, l, g1, g2, g3, g4, g5, g6, g7⟩ := open_flat r hro under22L sz59 cellsOf59 (by decide) (Q := fun x => ∃ c : Kl, x = c.cells) flat59 (by
    rintro cs ⟨c, rfl⟩
    exact ⟨rfl, fun v hv => by simp [Kl.cells] at hv; rcases hv with rfl | rfl | rfl <;> exact ⟨_, _, rfl⟩⟩) (by rw [bytes59]; exact Nat.succ_pos _) hw1 hhas hd1
  obtain ⟨l', rfl⟩ := calls_of l g7
  exact ⟨n, _, v0, ι', h', l', rfl, hn, g1, g2, g3, g4, g5, g6⟩
end Go.AM
end

/- The operations that change nothing: what the abstract machine answers, the model answers. -/
import Derived.Test.YthmfjfblndophaaAmStep
namespace Go.AM

section
variable {P : Program}

theorem run_sizeOf' {t : TypeId} {n : Nat} (h : size? P t = some n) (w : World) : (sizeOf t).run P w = .ok n w := by
  unfold size? at h
  cases hi : P.info? t with
  | none => rw [hi] at h; cases h
  | some i => rw [hi] at h; simp at h; simp [sizeOf, typeInfo, hi, h]

theorem run_typeInfo {t : TypeId} {i : TypeInfo} (h : P.info? t = some i) (w : World) : (typeInfo t).run P w = .ok i w := by
  simp [typeInfo, h]

theorem run_zero {t : TypeId} {z : Value} (h : zero? P t = some z) (w : World) : (zeroValue t).run P w = .ok z w := by
  unfold zero? at h
  cases hi : P.info? t with
  | none => rw [hi] at h; cases h
  | some i =>
    rw [hi] at h
    simp only [Option.bind_some] at h
    cases hz : i.zero with
    | none => rw [hz] at h; cases h
    | some z' =>
      rw [hz] at h
      simp only [Option.bind_some] at h
      split at h
      · cases h; simp [zeroValue, typeInfo, hi, hz]
      · cases h

theorem closedV_rel {ι : Nat → Emb} {n : Nat} : ∀ (d : Nat) (v : Value), closedV d v = true → VR ι n v v := by
  intro d
  induction d with
  | zero =>
    intro v h
    unfold closedV at h
    split at h <;> first | (cases h; done) | (exfalso; omega) | constructor
  | succ d ih =>
    intro v h
    unfold closedV at h
    split at h
    case h_9 =>
      rename_i cs _ e
      cases e
      exact .agg rfl fun i v v' hv hv' => by
        rw [hv] at hv'; cases hv'
        exact ih v (List.all_eq_true.1 h v (by simpa using Array.mem_of_getElem? hv))
    case h_10 =>
      rename_i cs _ e
      cases e
      exact .tuple rfl fun i v v' hv hv' => by
        rw [hv] at hv'; cases hv'
        exact ih v (List.all_eq_true.1 h v (by simpa using Array.mem_of_getElem? hv))
    all_goals first | (cases h; done) | constructor

theorem zero_rel {ι : Nat → Emb} {n : Nat} {t : TypeId} {z : Value} (h : zero? P t = some z) : VR ι n z z := by
  unfold zero? at h
  cases hi : P.info? t with
  | none => rw [hi] at h; cases h
  | some i =>
    rw [hi] at h
    simp only [Option.bind_some] at h
    cases hz : i.zero with
    | none => rw [hz] at h; cases h
    | some z' =>
      rw [hz] at h
      simp only [Option.bind_some] at h
      split at h
      · rename_i hc; cases h; exact closedV_rel 5 _ hc
      · cases h

theorem run_isAgg' {t : TypeId} {g : Bool} (h : aggT P t = some g) (w : World) : (isAgg t).run P w = .ok g w := by
  unfold aggT at h
  cases hu : P.underlying t with
  | none => rw [hu] at h; cases h
  | some d =>
    rw [hu] at h
    simp only [Option.map_some, Option.some.injEq] at h
    simp only [isAgg, Sem.run_bind, run_underlying hu, Result.andThen_ok]
    subst h
    cases d <;> rfl

theorem addr_add (b o k : Nat) : (⟨b, o, none⟩ : Addr).add k = ⟨b, o + k, none⟩ := by
  unfold Addr.add
  split
  · rename_i h; subst h; rfl
  · rfl

theorem bind_some {α β : Type} {x : Option α} {f : α → Option β} {b : β} (h : x.bind f = some b) : ∃ a, x = some a ∧ f a = some b := by
  cases x with
  | none => cases h
  | some a => exact ⟨a, rfl, h⟩

theorem map_some {α β : Type} {x : Option α} {f : α → β} {b : β} (h : x.map f = some b) : ∃ a, x = some a ∧ f a = b := by
  cases x with
  | none => cases h
  | some a => exact ⟨a, rfl, by simpa using h⟩

variable {E : Env} {ι : Nat → Emb} {h : H} {w : World}

theorem load_run (r : Rel P E ι h w) {t : TypeId} {x x' v : Value} (hx : VR ι h.nx x x') (hl : load P t x h = some v) :
    ∃ v', (Instr.loadAt t x').run P w = .ok v' w ∧ VR ι h.nx v v' := by
  unfold load at hl
  split at hl
  · rename_i b o
    cases hx
    simp only [Instr.loadAt, Instr.sureAddr, Sem.run_bind, Sem.run_pure, Result.andThen_ok, loadVar]
    cases ha : aggT P t with
    | none => rw [ha] at hl; cases hl
    | some g =>
      rw [ha] at hl
      simp only [run_isAgg' ha, Result.andThen_ok]
      cases g with
      | true =>
        obtain ⟨n, hn, hl⟩ := bind_some hl
        obtain ⟨l, hr, rfl⟩ := map_some hl
        obtain ⟨h1, l', h2, h3⟩ := r.rd hr
        simp only [if_true, Sem.run_bind, run_sizeOf' hn, Result.andThen_ok]
        have hrun := run_loadCells_list (P := P) w ⟨(ι b).g, (ι b).base + o, none⟩ l' (fun j v hv => by rw [addr_add]; exact h3 j v hv)
        rw [← h2.1, h1] at hrun
        simp only [hrun, Result.andThen_ok, Sem.run_pure]
        exact ⟨_, rfl, .agg h2.toArray.1 h2.toArray.2⟩
      | false =>
        obtain ⟨v', h1, h2⟩ := r.cell hl
        simp only [Bool.false_eq_true, if_false, run_load, h1]
        exact ⟨v', rfl, h2⟩
  · cases hl

theorem part_run {t : TypeId} {n : Nat} {cs cs' : Array Value} (hc : AR ι n cs cs') {off : Nat} {v : Value} (hl : part P t cs off = some v) :
    ∃ v', (∀ w, (Go.part t cs' off).run P w = .ok v' w) ∧ VR ι n v v' := by
  unfold part at hl
  cases ha : aggT P t with
  | none => rw [ha] at hl; cases hl
  | some g =>
    rw [ha] at hl
    cases g with
    | true =>
      obtain ⟨k, hk, rfl⟩ := map_some hl
      refine ⟨.agg (cs'.extract off (off + k)), fun w => ?_, .agg ?_ ?_⟩
      · simp only [Go.part, Sem.run_bind, run_isAgg' ha, Result.andThen_ok, if_true, run_sizeOf' hk, Sem.run_pure]
      · simp [hc.1]
      · intro i v v' hv hv'
        rw [Array.getElem?_extract] at hv hv'
        split at hv
        · split at hv'
          · exact hc.2 _ v v' hv hv'
          · cases hv'
        · cases hv
    | false =>
      simp only at hl
      obtain ⟨v', h1, h2⟩ := hc.get hl
      refine ⟨v', fun w => ?_, h2⟩
      simp only [Go.part, Sem.run_bind, run_isAgg' ha, Result.andThen_ok, Bool.false_eq_true, if_false, h1, Sem.run_pure]

theorem fieldAddr_run {n : Nat} {s : TypeId} {x x' v : Value} {f : Nat} (hx : VR ι n x x') (hl : fieldAddr P s x f = some v) (w : World) :
    ∃ v', (Instr.fieldAt s x' f).run P w = .ok v' w ∧ VR ι n v v' := by
  unfold fieldAddr at hl
  split at hl
  · rename_i fs b o hu
    obtain ⟨f', hf, hl⟩ := bind_some hl
    obtain ⟨k, hk, hl⟩ := bind_some hl
    split at hl
    · cases hl
    · rename_i hk0
      cases hl
      cases hx
      rename_i hb
      refine ⟨_, ?_, .ptr hb⟩
      simp only [Instr.fieldAt, Sem.run_bind, run_underlying hu, Result.andThen_ok, hf, Instr.sureAddr, Sem.run_pure, fieldPlace, run_sizeOf' hk, hk0, if_false, addr_add,
        Nat.add_assoc]
  · cases hl

theorem field_run {n : Nat} {t : TypeId} {x x' v : Value} {f : Nat} (hx : VR ι n x x') (hl : field P t x f = some v) (w : World) :
    ∃ v', (Instr.field t x' f).run P w = .ok v' w ∧ VR ι n v v' := by
  unfold field at hl
  split at hl
  · rename_i fs cs hu
    obtain ⟨f', hf, hl⟩ := bind_some hl
    cases hx
    rename_i xs' h1 h2
    obtain ⟨v', hr, hv⟩ := part_run (P := P) (ι := ι) (n := n) (cs := cs) (cs' := xs') ⟨h1, h2⟩ hl
    refine ⟨v', ?_, hv⟩
    simp only [Instr.field, Sem.run_bind, run_underlying hu, Result.andThen_ok, hf, asAgg, Sem.run_pure, hr]
  · cases hl

theorem indexAddr_run {n : Nat} {t : TypeId} {x x' i i' v : Value} (hx : VR ι n x x') (hi : VR ι n i i') (hl : indexAddr P t x i = some v) (w : World) :
    ∃ v', (Instr.indexAt t x' i').run P w = .ok v' w ∧ VR ι n v v' := by
  unfold indexAddr at hl
  split at hl
  · rename_i e b o l c k j hu
    split at hl
    · rename_i hj
      obtain ⟨s, hs, rfl⟩ := map_some hl
      cases hi
      cases hx with
      | sl hb hc hk hlim =>
        refine ⟨_, ?_, .ptr hb⟩
        simp only [Instr.indexAt, asIntOf, Sem.run_bind, Sem.run_pure, run_underlying hu, Result.andThen_ok]
        rw [if_pos (by exact hj)]
        simp only [Sem.run_bind, run_sizeOf' hs, Result.andThen_ok, Sem.run_pure, addr_add, Nat.add_assoc]
      | sl0 hb hc => simp at hj; omega
    · cases hl
  · rename_i m e b o k j hu
    split at hl
    · rename_i hj
      obtain ⟨s, hs, rfl⟩ := map_some hl
      cases hi
      cases hx with
      | ptr hb =>
        refine ⟨_, ?_, .ptr hb⟩
        simp only [Instr.indexAt, asIntOf, Sem.run_bind, Sem.run_pure, run_underlying hu, Result.andThen_ok, Instr.sureAddr]
        rw [if_pos (by exact hj)]
        simp only [Sem.run_bind, run_sizeOf' hs, Result.andThen_ok, Sem.run_pure, addr_add, Nat.add_assoc]
    · cases hl
  · cases hl

theorem index_run {n : Nat} {t : TypeId} {x x' i i' v : Value} (hx : VR ι n x x') (hi : VR ι n i i') (hl : index P t x i = some v) (w : World) :
    ∃ v', (Instr.index t x' i').run P w = .ok v' w ∧ VR ι n v v' := by
  unfold index at hl
  split at hl
  · rename_i m e cs k j hu
    split at hl
    · rename_i hj
      obtain ⟨s, hs, hl⟩ := bind_some hl
      cases hi
      cases hx
      rename_i xs' h1 h2
      obtain ⟨v', hr, hv⟩ := part_run (P := P) (ι := ι) (n := n) (cs := cs) (cs' := xs') ⟨h1, h2⟩ hl
      refine ⟨v', ?_, hv⟩
      simp only [Instr.index, asIntOf, Sem.run_bind, Sem.run_pure, run_underlying hu, Result.andThen_ok]
      rw [if_pos (by exact hj)]
      simp only [Sem.run_bind, run_sizeOf' hs, Result.andThen_ok, hr]
    · cases hl
  · cases hl

theorem convert_run {n : Nat} {s d : TypeId} {x x' v : Value} (hx : VR ι n x x') (hl : convert P s d x = some v) (w : World) :
    ∃ v', (Go.convert s d x').run P w = .ok v' w ∧ VR ι n v v' := by
  unfold convert at hl
  split at hl
  · rename_i u k k' m h1 h2
    cases hl
    cases hx
    refine ⟨_, ?_, .int _ _⟩
    simp only [Go.convert, Sem.run_bind, run_underlying h1, run_underlying h2, Result.andThen_ok, Conv.intToInt, Sem.run_pure]
  · cases hl

theorem unOp_run {n : Nat} {op : UnOp} {x x' v : Value} (hx : VR ι n x x') (hl : unOp op x = some v) (w : World) :
    ∃ v', (Op.unary op x').run P w = .ok v' w ∧ VR ι n v v' := by
  unfold unOp at hl
  split at hl
  · cases hl; cases hx; exact ⟨_, by simp [Op.unary, Op.intArith], .int _ _⟩
  · rename_i k m
    cases hx
    simp only [intBin] at hl
    cases hl
    exact ⟨_, by simp [Op.unary, Op.intBits], .int _ _⟩
  · cases hl; cases hx; exact ⟨_, by simp [Op.unary], .bool _⟩
  · cases hl

theorem intBin_run {op : BinOp} {k : IntKind} {a b : Int} {v : Value} (hl : intBin op k a b = some v) (w : World) {T : TypeId} :
    (Go.binOp op T (.int k a) (.int k b)).run P w = .ok v w ∧ ∀ n, VR ι n v v := by
  cases op <;> simp only [intBin] at hl
  case quo =>
    split at hl
    · cases hl
    · cases hl; rename_i hb; exact ⟨by simp [Go.binOp, Op.intDiv, hb], fun n => .int _ _⟩
  case rem =>
    split at hl
    · cases hl
    · cases hl; rename_i hb; exact ⟨by simp [Go.binOp, Op.intDiv, hb], fun n => .int _ _⟩
  all_goals first
    | (cases hl; done)
    | (cases hl; exact ⟨by simp [Go.binOp, Op.intArith, Op.intBits, Op.intCmp], fun n => by first | exact .int _ _ | exact .bool _⟩)

end
end Go.AM

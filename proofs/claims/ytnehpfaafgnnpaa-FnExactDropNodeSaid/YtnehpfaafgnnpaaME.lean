/- A region that draws its order comes to what it comes to in the order of its text. The law for a region that draws its order. -/
import Derived.Test.YtnehpfaafgnnpaaMD
set_option linter.unusedSimpArgs false
set_option linter.unusedVariables false
set_option linter.unnecessarySimpa false
namespace Go.AM
open AV Go.RowKit

section
variable {cl : FuncId → List AV → Mem → Option (AV × Mem)}

/-- A call leaves all boxes as they are. -/
def ClBox (cl : FuncId → List AV → Mem → Option (AV × Mem)) : Prop := ∀ f as M r M', cl f as M = some (r, M') → ∀ (b : Nat) (cs : List AV), M.boxes[b]? = some cs → M'.boxes[b]? = some cs

theorem map_pair {α : Type} {x : Option α} {f : α → AV} {M M' : Mem} {v : AV} (h : (x.map fun a => (f a, M)) = some (v, M')) : M' = M ∧ ∀ M2 : Mem, (x.map fun a => (f a, M2)) = some (v, M2) := by
  cases x with
  | none => cases h
  | some a =>
    simp only [Option.map_some, Option.some.injEq, Prod.mk.injEq] at h
    obtain ⟨h1, rfl⟩ := h
    exact ⟨rfl, fun M2 => by simp [h1]⟩

theorem quiet_op {e : Env} {M M' : Mem} {v : AV} {so : SOp} (hm : so.main = false) (hl : so.isLd = false) (h : so.ev cl e M = some (v, M')) : M' = M ∧ ∀ M2, so.ev cl e M2 = some (v, M2) := by
  cases so <;> first | (cases hm; done) | (cases hl; done) | skip
  case mv x => simp only [SOp.ev, Option.some.injEq, Prod.mk.injEq] at h ⊢; exact ⟨h.2.symm, fun M2 => ⟨h.1, trivial⟩⟩
  case pk c x y =>
    simp only [SOp.ev] at h ⊢
    split at h <;> first | (simp only [Option.some.injEq, Prod.mk.injEq] at h ⊢; exact ⟨h.2.symm, fun M2 => ⟨h.1, trivial⟩⟩) | cases h
  case bd zs ps =>
    simp only [SOp.ev] at h ⊢
    split at h <;> first | exact map_pair h | cases h
  case nc x =>
    simp only [SOp.ev] at h ⊢
    split at h <;> first | (simp only [Option.some.injEq, Prod.mk.injEq] at h ⊢; exact ⟨h.2.symm, fun M2 => ⟨h.1, trivial⟩⟩) | cases h
  case bin op x y => simp only [SOp.ev] at h ⊢; exact map_pair h
  case beq ne x y =>
    simp only [SOp.ev] at h ⊢
    split at h <;> first | (simp only [Option.some.injEq, Prod.mk.injEq] at h ⊢; exact ⟨h.2.symm, fun M2 => ⟨h.1, trivial⟩⟩) | cases h
  case seq ne ks x y =>
    simp only [SOp.ev] at h ⊢
    split at h <;> first | exact map_pair h | cases h
  case nt x =>
    simp only [SOp.ev] at h ⊢
    split at h <;> first | (simp only [Option.some.injEq, Prod.mk.injEq] at h ⊢; exact ⟨h.2.symm, fun M2 => ⟨h.1, trivial⟩⟩) | cases h
  case ng x =>
    simp only [SOp.ev] at h ⊢
    split at h <;> first | (simp only [Option.some.injEq, Prod.mk.injEq] at h ⊢; exact ⟨h.2.symm, fun M2 => ⟨h.1, trivial⟩⟩) | cases h
  case cv k x =>
    simp only [SOp.ev] at h ⊢
    split at h <;> first | (simp only [Option.some.injEq, Prod.mk.injEq] at h ⊢; exact ⟨h.2.symm, fun M2 => ⟨h.1, trivial⟩⟩) | cases h
  case b2s x =>
    simp only [SOp.ev] at h ⊢
    split at h <;> first | exact map_pair h | cases h
  case mf f xs => simp only [SOp.ev, Option.some.injEq, Prod.mk.injEq] at h ⊢; exact ⟨h.2.symm, fun M2 => ⟨h.1, trivial⟩⟩
  case be => simp only [SOp.ev, Option.some.injEq, Prod.mk.injEq] at h ⊢; exact ⟨h.2.symm, fun M2 => ⟨h.1, trivial⟩⟩
  case sls x lo hi =>
    simp only [SOp.ev] at h ⊢
    split at h <;> first | exact map_pair h | cases h
  case slc n x lo hi =>
    simp only [SOp.ev] at h ⊢
    split at h
    · rename_i t xs hx
      split at h
      · rename_i hh; simp only [hh, if_true]; exact map_pair h
      · cases h
    · split at h
      · rename_i hh; subst hh; simp only [if_true]; exact map_pair h
      · cases h
    · cases h
  case fa k x =>
    simp only [SOp.ev] at h ⊢
    split at h <;> first | (simp only [Option.some.injEq, Prod.mk.injEq] at h ⊢; exact ⟨h.2.symm, fun M2 => ⟨h.1, trivial⟩⟩) | cases h
  case fld ag n k x =>
    simp only [SOp.ev] at h ⊢
    split at h <;> first | exact map_pair h | cases h
  case ia n x i =>
    simp only [SOp.ev] at h ⊢
    split at h
    · split at h
      · rename_i h0
        split at h
        · split at h
          · rename_i hk; simp only [Option.some.injEq, Prod.mk.injEq] at h; simp only [h0, hk, if_true, and_self]; exact ⟨h.2.symm, fun M2 => by rw [h.1]⟩
          · cases h
        · cases h
      · cases h
    · split at h
      · rename_i h0
        obtain ⟨h1, h2, h3⟩ := h0
        subst h3
        simp only [Option.some.injEq, Prod.mk.injEq] at h; simp only [h1, h2, if_true, and_self]; exact ⟨h.2.symm, fun M2 => by rw [h.1]⟩
      · cases h
    · cases h
  case iaA m n x i =>
    simp only [SOp.ev] at h ⊢
    split at h
    · split at h
      · rename_i h0; simp only [Option.some.injEq, Prod.mk.injEq] at h; simp only [h0, if_true, and_self]; exact ⟨h.2.symm, fun M2 => by rw [h.1]⟩
      · cases h
    · split at h
      · rename_i h0; simp only [Option.some.injEq, Prod.mk.injEq] at h; simp only [h0, if_true, and_self]; exact ⟨h.2.symm, fun M2 => by rw [h.1]⟩
      · cases h
    · cases h
  case ixA ag m n x i =>
    simp only [SOp.ev] at h ⊢
    split at h
    · split at h
      · rename_i h0; simp only [h0, if_true, and_self]; exact map_pair h
      · cases h
    · cases h
  case ixS x i =>
    simp only [SOp.ev] at h ⊢
    split at h
    · split at h
      · rename_i h0
        split at h
        · simp only [Option.some.injEq, Prod.mk.injEq] at h; simp only [h0, if_true]; exact ⟨h.2.symm, fun M2 => by rw [h.1]⟩
        · cases h
      · cases h
    · cases h
  case ext i x =>
    simp only [SOp.ev] at h ⊢
    split at h <;> first | exact map_pair h | cases h
  case len x =>
    simp only [SOp.ev] at h ⊢
    split at h <;> first | (simp only [Option.some.injEq, Prod.mk.injEq] at h ⊢; exact ⟨h.2.symm, fun M2 => ⟨h.1, trivial⟩⟩) | cases h
  case lenS x =>
    simp only [SOp.ev] at h ⊢
    split at h <;> first | (simp only [Option.some.injEq, Prod.mk.injEq] at h ⊢; exact ⟨h.2.symm, fun M2 => ⟨h.1, trivial⟩⟩) | cases h
  case mn x y =>
    simp only [SOp.ev] at h ⊢
    split at h
    · split at h
      · rename_i hk; simp only [Option.some.injEq, Prod.mk.injEq] at h; simp only [hk, if_true]; exact ⟨h.2.symm, fun M2 => by rw [← h.1, hk]⟩
      · cases h
    · cases h
  case mx x y =>
    simp only [SOp.ev] at h ⊢
    split at h
    · split at h
      · rename_i hk; simp only [Option.some.injEq, Prod.mk.injEq] at h; simp only [hk, if_true]; exact ⟨h.2.symm, fun M2 => by rw [← h.1, hk]⟩
      · cases h
    · cases h

theorem ld_op {e : Env} {M M' : Mem} {v : AV} {ag : Bool} {n : Nat} {x : X} (h : (SOp.ld ag n x).ev cl e M = some (v, M')) :
    M' = M ∧ ∀ M2 : Mem, (∀ b o cs, x.ev e = .ptr b o → M.boxes[b]? = some cs → M2.boxes[b]? = some cs) → (SOp.ld ag n x).ev cl e M2 = some (v, M2) := by
  simp only [SOp.ev] at h ⊢
  split at h
  · rename_i b o hx
    split at h
    · rename_i cs hb
      obtain ⟨h1, h2⟩ := map_pair h
      exact ⟨h1, fun M2 hM => by rw [hM b o cs hx hb]; exact h2 M2⟩
    · cases h
  · obtain ⟨h1, h2⟩ := map_pair h
    exact ⟨h1, fun M2 _ => h2 M2⟩
  · cases h

theorem appA_boxes {sz bytes : Nat} {t : Tok} {xs ys : List AV} {M M' : Mem} {v : AV} (h : appA sz bytes t xs ys M = some (v, M')) : M'.boxes = M.boxes := by
  unfold appA at h
  split at h
  · split at h
    · split at h
      · simp only [Option.some.injEq, Prod.mk.injEq] at h; rw [← h.2]
      · simp only [Option.some.injEq, Prod.mk.injEq] at h; rw [← h.2]
      · cases h
    · split at h
      · simp only [Option.some.injEq, Prod.mk.injEq] at h; rw [← h.2]
      · cases h
    · cases h
  · cases h

/-- What is no store leaves the boxes that were there. -/
theorem op_boxes (hcl : ClBox cl) {e : Env} {M M' : Mem} {v : AV} {so : SOp} (hst : so.isSt = false) (h : so.ev cl e M = some (v, M')) : ∀ (b : Nat) (cs : List AV), M.boxes[b]? = some cs → M'.boxes[b]? = some cs := by
  intro b cs hb
  cases hm : so.main with
  | false =>
    cases hl : so.isLd with
    | false => rw [(quiet_op hm hl h).1]; exact hb
    | true =>
      cases so <;> first | (cases hl; done) | skip
      case ld ag n x => rw [(ld_op h).1]; exact hb
  | true =>
    have app : ∀ l : List (List AV), (M.boxes ++ l)[b]? = some cs := fun l => by rw [List.getElem?_append_left (getElem?_lt hb)]; exact hb
    cases so <;> first | (cases hm; done) | (cases hst; done) | skip
    case al zs => simp only [SOp.ev, Option.some.injEq, Prod.mk.injEq] at h; rw [← h.2]; exact app _
    case bx x =>
      simp only [SOp.ev] at h
      split at h
      · simp only [Option.some.injEq, Prod.mk.injEq] at h; rw [← h.2]; exact app _
      · cases h
    case bs n xs =>
      simp only [SOp.ev] at h
      split at h
      · simp only [Option.some.injEq, Prod.mk.injEq] at h; rw [← h.2]; exact hb
      · cases h
    case mk z n x y =>
      simp only [SOp.ev] at h
      split at h
      · split at h
        · simp only [Option.some.injEq, Prod.mk.injEq] at h; rw [← h.2]; exact hb
        · cases h
      · cases h
    case mkb z n x =>
      simp only [SOp.ev] at h
      split at h
      · split at h
        · simp only [Option.some.injEq, Prod.mk.injEq] at h; rw [← h.2]; exact app _
        · cases h
      · cases h
    case call f xs => simp only [SOp.ev] at h; exact hcl _ _ _ _ _ h b cs hb
    case dyn x xs =>
      simp only [SOp.ev] at h
      split at h
      · exact hcl _ _ _ _ _ h b cs hb
      · cases h
    case app n m x y =>
      simp only [SOp.ev] at h
      split at h
      · rw [appA_boxes h]; exact hb
      · cases h
    case appS x y =>
      simp only [SOp.ev] at h
      split at h
      · rw [appA_boxes h]; exact hb
      · cases h

theorem si_cases {e : Env} {M M' : Mem} {v : AV} {i : SI} (h : i.ev cl e M = some (v, M')) : (wantA e i.g = some true ∧ i.o.ev cl e M = some (v, M')) ∨ (wantA e i.g = some false ∧ v = .und ∧ M' = M) := by
  unfold SI.ev at h
  split at h
  · exact .inl ⟨‹_›, h⟩
  · simp only [Option.some.injEq, Prod.mk.injEq] at h; exact .inr ⟨‹_›, h.1.symm, h.2.symm⟩
  · cases h

theorem si_quiet {e : Env} {M M' : Mem} {v : AV} {i : SI} (hm : i.o.main = false) (h : i.ev cl e M = some (v, M')) : M' = M := by
  rcases si_cases h with ⟨_, h⟩ | ⟨_, _, h⟩
  · cases hl : i.o.isLd with
    | false => exact (quiet_op hm hl h).1
    | true =>
      obtain ⟨g, d, so⟩ := i
      cases so <;> first | (cases hl; done) | skip
      case ld ag n x => exact (ld_op h).1
  · exact h
theorem si_boxes (hcl : ClBox cl) {e : Env} {M M' : Mem} {v : AV} {i : SI} (hst : i.o.isSt = false) (h : i.ev cl e M = some (v, M')) : ∀ (b : Nat) (cs : List AV), M.boxes[b]? = some cs → M'.boxes[b]? = some cs := by
  rcases si_cases h with ⟨_, h⟩ | ⟨_, _, h⟩
  · exact op_boxes hcl hst h
  · rw [h]; exact fun _ _ hb => hb

/-! ### The trace -/
structure Trace (cl : FuncId → List AV → Mem → Option (AV × Mem)) (e : Env) (M : Mem) (sis : List SI) (vals : Nat → AV) (envs : Nat → Env) (mems : Nat → Mem) : Prop where
  e0 : envs 0 = e
  m0 : mems 0 = M
  step : ∀ (i : Nat) (si : SI), sis[i]? = some si → si.ev cl (envs i) (mems i) = some (vals i, mems (i + 1)) ∧ envs (i + 1) = updO (envs i) si.d (vals i)

theorem trace_of : ∀ {sis : List SI} {e e' : Env} {M M' : Mem}, evOps cl e M sis = some (e', M') → ∃ vals envs mems, Trace cl e M sis vals envs mems ∧ envs sis.length = e' ∧ mems sis.length = M'
  | [], e, e', M, M', h => by
    simp only [evOps, Option.some.injEq, Prod.mk.injEq] at h
    exact ⟨fun _ => .any, fun _ => e, fun _ => M, ⟨rfl, rfl, fun i si hi => by simp at hi⟩, h.1, h.2⟩
  | s :: r, e, e', M, M', h => by
    simp only [evOps] at h
    split at h
    · rename_i v M1 hv
      obtain ⟨vals, envs, mems, ht, h1, h2⟩ := trace_of h
      refine ⟨fun i => match i with | 0 => v | i + 1 => vals i, fun i => match i with | 0 => e | i + 1 => envs i, fun i => match i with | 0 => M | i + 1 => mems i, ⟨rfl, rfl, fun i si hi => ?_⟩, h1, h2⟩
      cases i with
      | zero =>
        simp only [List.getElem?_cons_zero, Option.some.injEq] at hi
        subst hi
        simp only [ht.e0, ht.m0]
        exact ⟨hv, trivial⟩
      | succ i => simp only [List.getElem?_cons_succ] at hi; exact ht.step i si hi
    · cases h

variable {e : Env} {M : Mem} {sis : List SI} {vals : Nat → AV} {envs : Nat → Env} {mems : Nat → Mem}

theorem Trace.mem_const (ht : Trace cl e M sis vals envs mems) : ∀ (d i : Nat), i + d ≤ sis.length → (∀ (k : Nat) (si : SI), i ≤ k → k < i + d → sis[k]? = some si → si.o.main = false) → mems (i + d) = mems i
  | 0, i, _, _ => rfl
  | d + 1, i, hn, h => by
    have hlt : i + d < sis.length := by omega
    have h1 := ht.mem_const d i (by omega) fun k si h1 h2 h3 => h k si h1 (by omega) h3
    have h2 := ht.step (i + d) _ (List.getElem?_eq_getElem hlt)
    rw [show i + (d + 1) = i + d + 1 by omega, si_quiet (h (i + d) _ (by omega) (by omega) (List.getElem?_eq_getElem hlt)) h2.1, h1]

theorem Trace.mem_boxes (hcl : ClBox cl) (ht : Trace cl e M sis vals envs mems) : ∀ (d i : Nat), i + d ≤ sis.length → (∀ (k : Nat) (si : SI), i ≤ k → k < i + d → sis[k]? = some si → si.o.isSt = false) → ∀ (b : Nat) (cs : List AV), (mems i).boxes[b]? = some cs → (mems (i + d)).boxes[b]? = some cs
  | 0, i, _, _, _, _, hb => hb
  | d + 1, i, hn, h, b, cs, hb => by
    have hlt : i + d < sis.length := by omega
    have h1 := ht.mem_boxes hcl d i (by omega) (fun k si h1 h2 h3 => h k si h1 (by omega) h3) b cs hb
    have h2 := ht.step (i + d) _ (List.getElem?_eq_getElem hlt)
    rw [show i + (d + 1) = i + d + 1 by omega]
    exact si_boxes hcl (h (i + d) _ (by omega) (by omega) (List.getElem?_eq_getElem hlt)) h2.1 b cs h1

/-- The slot at a time of the trace: what the one operation that writes it gave, or what it was. -/
theorem Trace.env_at (ht : Trace cl e M sis vals envs mems) (hd : ∀ (i j : Nat) (si sj : SI) (t : Nat), i < j → sis[i]? = some si → sis[j]? = some sj → si.d = some t → sj.d ≠ some t) (t : Nat) : ∀ k, k ≤ sis.length →
    (∀ (i : Nat) (si : SI), i < k → sis[i]? = some si → si.d = some t → envs k t = vals i) ∧ ((∀ (i : Nat) (si : SI), i < k → sis[i]? = some si → si.d ≠ some t) → envs k t = e t)
  | 0, _ => ⟨fun i si hi => by omega, fun _ => by rw [ht.e0]⟩
  | k + 1, hk => by
    obtain ⟨h1, h2⟩ := ht.env_at hd t k (by omega)
    have hlt : k < sis.length := by omega
    obtain ⟨_, hs⟩ := ht.step k _ (List.getElem?_eq_getElem hlt)
    have hsame : (sis[k]).d ≠ some t → envs (k + 1) t = envs k t := by
      intro hne
      rw [hs]
      cases hdk : (sis[k]).d with
      | none => rfl
      | some d => exact upd_ne _ _ _ _ (fun h => hne (by rw [hdk, h]))
    refine ⟨fun i si hi hsi hdi => ?_, fun h => ?_⟩
    · by_cases hik : i = k
      · subst hik
        rw [List.getElem?_eq_getElem hlt, Option.some.injEq] at hsi
        rw [hs, hsi, hdi]
        exact upd_same _ _ _
      · rw [hsame (hd i k si _ t (by omega) hsi (List.getElem?_eq_getElem hlt) hdi)]
        exact h1 i si (by omega) hsi hdi
    · rw [hsame (h k _ (by omega) (List.getElem?_eq_getElem hlt))]
      exact h2 fun i si hi hsi => h i si (by omega) hsi
end
end Go.AM

namespace Go.AM
open AV Go.RowKit

def edgesOf (ops : Array Oper) (j : Nat) : List Nat :=
  match ops[j]? with
  | some o => (o.after.toList.filter (Region.binds .any)).map (·.on)
  | none => []
def ldOk : SOp → Bool
  | .ld _ _ (.c _) => false
  | _ => true
def selfOk (y : SI) : Bool := ldOk y.o && match y.d with
  | some d => !(y.reads).contains d
  | none => true
def pairOk (an : Bool) (x y : SI) : Bool :=
  (match x.d with
   | some d => (y.d != some d) && (an || !(y.reads).contains d)
   | none => true) &&
  (match y.d with
   | some d => !(x.reads).contains d
   | none => true) &&
  (!(x.o.main && y.o.main) || an) &&
  (!((x.o.isLd && y.o.isSt) || (x.o.isSt && y.o.isLd)) || an)
def drawOk (ops : Array Oper) (sis : List SI) (ancs : List (List Nat)) : Bool :=
  (List.range sis.length).all fun j =>
    (edgesOf ops j).all (fun k => decide (k < j)) &&
    (ancs.getD j []).all (fun i => decide (i < j) && ((edgesOf ops j).contains i || (edgesOf ops j).any fun k => (ancs.getD k []).contains i)) &&
    (match sis[j]? with
     | some y => selfOk y && (List.range j).all fun i => (match sis[i]? with
       | some x => pairOk ((ancs.getD j []).contains i) x y
       | none => true)
     | none => true)

section
variable {ops : Array Oper} {sis : List SI} {ancs : List (List Nat)}

structure DrawOk (ops : Array Oper) (sis : List SI) (ancs : List (List Nat)) : Prop where
  edge : ∀ (j k : Nat), j < sis.length → k ∈ edgesOf ops j → k < j
  anc : ∀ (j i : Nat), j < sis.length → i ∈ ancs.getD j [] → i < j ∧ (i ∈ edgesOf ops j ∨ ∃ k, k ∈ edgesOf ops j ∧ i ∈ ancs.getD k [])
  ld : ∀ (j : Nat) (y : SI), sis[j]? = some y → ldOk y.o = true
  self : ∀ (j : Nat) (y : SI) (t : Nat), sis[j]? = some y → y.d = some t → t ∉ y.reads
  dst : ∀ (i j : Nat) (x y : SI) (t : Nat), i < j → sis[i]? = some x → sis[j]? = some y → x.d = some t → y.d ≠ some t
  reads : ∀ (i j : Nat) (x y : SI) (t : Nat), i < j → sis[i]? = some x → sis[j]? = some y → x.d = some t → t ∈ y.reads → i ∈ ancs.getD j []
  anti : ∀ (i j : Nat) (x y : SI) (t : Nat), i < j → sis[i]? = some x → sis[j]? = some y → y.d = some t → t ∉ x.reads
  main : ∀ (i j : Nat) (x y : SI), i < j → sis[i]? = some x → sis[j]? = some y → x.o.main = true → y.o.main = true → i ∈ ancs.getD j []
  ldst : ∀ (i j : Nat) (x y : SI), i < j → sis[i]? = some x → sis[j]? = some y → (x.o.isLd = true ∧ y.o.isSt = true) ∨ (x.o.isSt = true ∧ y.o.isLd = true) → i ∈ ancs.getD j []

theorem drawOk_spec (h : drawOk ops sis ancs = true) : DrawOk ops sis ancs := by
  have hj : ∀ j, j < sis.length → _ := fun j hj => List.all_eq_true.1 h j (List.mem_range.2 hj)
  simp only [Bool.and_eq_true] at hj
  have hp : ∀ (i j : Nat) (x y : SI), i < j → sis[i]? = some x → sis[j]? = some y → pairOk ((ancs.getD j []).contains i) x y = true := by
    intro i j x y hij hi hjy
    have h1 := (hj j (getElem?_lt hjy)).2
    rw [hjy] at h1
    simp only [Bool.and_eq_true] at h1
    have h2 := List.all_eq_true.1 h1.2 i (List.mem_range.2 hij)
    rw [hi] at h2
    exact h2
  have hmem : ∀ j i, (ancs.getD j []).contains i = true → i ∈ ancs.getD j [] := fun j i h => by simpa using h
  refine ⟨?_, ?_, ?_, ?_, ?_, ?_, ?_, ?_, ?_⟩
  · intro j k hjl hk
    exact of_decide_eq_true (List.all_eq_true.1 (hj j hjl).1.1 k hk)
  · intro j i hjl hi
    have := List.all_eq_true.1 (hj j hjl).1.2 i hi
    simp only [Bool.and_eq_true, decide_eq_true_eq, Bool.or_eq_true, List.any_eq_true, List.contains_iff_mem] at this
    exact this
  · intro j y hjy
    have h1 := (hj j (getElem?_lt hjy)).2
    rw [hjy] at h1
    simp only [Bool.and_eq_true, selfOk] at h1
    exact h1.1.1
  · intro j y t hjy hd
    have h1 := (hj j (getElem?_lt hjy)).2
    rw [hjy] at h1
    simp only [Bool.and_eq_true, selfOk, hd] at h1
    simpa using h1.1.2
  · intro i j x y t hij hi hjy hd
    have := hp i j x y hij hi hjy
    simp only [pairOk, hd, Bool.and_eq_true] at this
    have h1 := this.1.1.1.1
    simpa using h1
  · intro i j x y t hij hi hjy hd ht
    have := hp i j x y hij hi hjy
    simp only [pairOk, hd, Bool.and_eq_true, Bool.or_eq_true] at this
    rcases this.1.1.1.2 with h1 | h1
    · exact hmem _ _ h1
    · simp at h1; exact absurd ht h1
  · intro i j x y t hij hi hjy hd
    have := hp i j x y hij hi hjy
    simp only [pairOk, hd, Bool.and_eq_true] at this
    have h1 := this.1.1.2
    simpa using h1
  · intro i j x y hij hi hjy hx hy
    have := hp i j x y hij hi hjy
    simp only [pairOk, Bool.and_eq_true, hx, hy, Bool.and_self, Bool.not_true, Bool.false_or] at this
    exact hmem _ _ this.1.2
  · intro i j x y hij hi hjy hxy
    have := hp i j x y hij hi hjy
    simp only [pairOk, Bool.and_eq_true] at this
    have h1 := this.2
    rcases hxy with ⟨hx, hy⟩ | ⟨hx, hy⟩ <;> simp only [hx, hy, Bool.and_self, Bool.true_or, Bool.or_true, Bool.not_true, Bool.false_or] at h1 <;> exact hmem _ _ h1

/-- Ancestors of what is ready are done. -/
theorem anc_done (hD : DrawOk ops sis ancs) {listed : Array Bool} (hc : ∀ j, j < sis.length → listed.getD j false = true → ∀ k ∈ edgesOf ops j, listed.getD k false = true) :
    ∀ (n j : Nat), j < n → j < sis.length → (∀ k ∈ edgesOf ops j, listed.getD k false = true) → ∀ i ∈ ancs.getD j [], listed.getD i false = true
  | 0, j, h, _, _, _, _ => by omega
  | n + 1, j, hjn, hj, hr, i, hi => by
    obtain ⟨_, h1 | ⟨k, hk, hik⟩⟩ := hD.anc j i hj hi
    · exact hr i h1
    · have hkj := hD.edge j k hj hk
      exact anc_done hD hc n k (by omega) (by omega) (hc k (by omega) (hr k hk)) i hik

theorem slimL_get {P : Program} {nt : Nat} : ∀ {l : List Oper} {sis : List SI}, slimL P nt ops l = some sis → sis.length = l.length ∧ ∀ (i : Nat) (si : SI), sis[i]? = some si → ∃ o, l[i]? = some o ∧ slimI P nt ops o = some si
  | [], sis, h => by cases h; exact ⟨rfl, fun i si hi => by simp at hi⟩
  | o :: r, sis, h => by
    simp only [slimL] at h
    split at h
    · rename_i s l h1 h2
      obtain rfl := Option.some.inj h
      obtain ⟨q1, q2⟩ := slimL_get h2
      refine ⟨by simp [q1], fun i si hi => ?_⟩
      cases i with
      | zero => simp at hi; subst hi; exact ⟨o, rfl, h1⟩
      | succ i => simp at hi; simpa using q2 i si hi
    · cases h

variable {P : Program} {B : Nat} {w0 : World} {G : Gh} {M : Mem} {w : World} {a : Act} {e : Env}
variable {cl : FuncId → List AV → Mem → Option (AV × Mem)} {vals : Nat → AV} {envs : Nat → Env} {mems : Nat → Mem}

/-- What holds while a region is on its way: which operations are done, up to which one of those that turn memory, and what the slots hold. -/
structure Way (B : Nat) (w0 : World) (n0 : Nat) (G : Gh) (a0 : Act) (e : Env) (ops : Array Oper) (sis : List SI) (vals : Nat → AV) (mems : Nat → Mem) (listed : Array Bool) (a : Act) (w : World) : Prop where
  lsize : listed.size = ops.size
  closed : ∀ j, j < sis.length → listed.getD j false = true → ∀ k ∈ edgesOf ops j, listed.getD k false = true
  defers : a.defers = a0.defers
  size : a.tmps.size = a0.tmps.size
  st : ∃ (p : Nat) (G1 : Gh) (eS : Env), p ≤ sis.length ∧ (∀ (i : Nat) (si : SI), sis[i]? = some si → si.o.main = true → (listed.getD i false = true ↔ i < p)) ∧
    Goes B n0 G G1 ∧ Inv B w0 G1 (mems p) w ∧ VE G1 (mems p).boxes.length eS a ∧ n0 ≤ (mems p).boxes.length ∧
    (∀ (i : Nat) (si : SI) (t : Nat), sis[i]? = some si → listed.getD i false = true → si.d = some t → eS t = vals i) ∧
    (∀ t, (∀ (i : Nat) (si : SI), sis[i]? = some si → listed.getD i false = true → si.d ≠ some t) → eS t = e t)

theorem edges_ready {j : Nat} {o : Oper} {listed : Array Bool} (ho : ops[j]? = some o) (h : ∀ e ∈ o.after, Region.binds .any e = true → listed.getD e.on false = true) : ∀ k ∈ edgesOf ops j, listed.getD k false = true := by
  intro k hk
  unfold edgesOf at hk
  rw [ho] at hk
  obtain ⟨e, he, rfl⟩ := List.mem_map.1 hk
  rw [List.mem_filter] at he
  exact h e (by simpa using he.1) he.2

theorem VE_reads {ag : Bool} {m : Nat} {x : X} {b off : Nat} {G1 : Gh} {n : Nat} {eS : Env} {a : Act} (hl : ldOk (.ld ag m x) = true) (hx : x.ev eS = .ptr b off) (h : VE G1 n eS a) : b < n := by
  cases x with
  | t s =>
    have := (h s).2
    simp only [X.ev] at hx
    rw [hx] at this
    simpa [bd] using this
  | c v => cases hl

theorem draw_sound (hcl : ClOk P cl) (hbx : ClBox cl) (hD : DrawOk ops sis ancs) (hs : slimL P a.tmps.size ops ops.toList = some sis) (ht : Trace cl e M sis vals envs mems) {a0 : Act} {Q : Exit → Act → World → Prop} {n0 : Nat} (hsz0 : a0.tmps.size = a.tmps.size)
    (hQ : ∀ a' w', Post B w0 n0 G a0 (envs sis.length) (mems sis.length) a' w' → Q .normal a' w') :
    ∀ (fuel : Nat) (rem : List Nat) (listed : Array Bool) (a : Act) (w : World), rem.length ≤ fuel → (∀ i, i < sis.length → listed.getD i false = false → i ∈ rem) →
      Way B w0 n0 G a0 e ops sis vals mems listed a w → wpAny P .any ops Q fuel listed a w := by
  have hlen := (slimL_get hs).1
  have hops : sis.length = ops.size := by simpa using hlen
  intro fuel
  -- all done
  have fin : ∀ (listed : Array Bool) (a : Act) (w : World), Way B w0 n0 G a0 e ops sis vals mems listed a w → (∀ i, i < sis.length → listed.getD i false = true) → Q .normal a w := by
    intro listed a w hw hall
    obtain ⟨p, G1, eS, hp, hmain, g1, g2, g3, g4, g5, g6⟩ := hw.st
    have hpm : mems sis.length = mems p := by
      have := ht.mem_const (sis.length - p) p (by omega) (fun k si h1 h2 h3 => by
        cases hm : si.o.main with
        | false => rfl
        | true => have := (hmain k si h3 hm).1 (hall k (getElem?_lt h3)); omega)
      rw [show p + (sis.length - p) = sis.length by omega] at this
      exact this
    have hee : eS = envs sis.length := by
      funext t
      obtain ⟨h1, h2⟩ := ht.env_at hD.dst t sis.length (Nat.le_refl _)
      by_cases hex : ∃ (i : Nat) (si : SI), sis[i]? = some si ∧ si.d = some t
      · obtain ⟨i, si, hi, hd⟩ := hex
        rw [g5 i si t hi (hall i (getElem?_lt hi)) hd, h1 i si (getElem?_lt hi) hi hd]
      · rw [g6 t (fun i si hi _ hd => hex ⟨i, si, hi, hd⟩), h2 (fun i si _ hi hd => hex ⟨i, si, hi, hd⟩)]
    refine hQ a w ⟨hw.defers, hw.size, ⟨G1, g1, by rw [hpm]; exact g2, ?_⟩, by rw [hpm]; exact g4⟩
    rw [← hee, hpm]; exact g3
  -- nothing ready
  have none_ready : ∀ (listed : Array Bool) (a : Act) (w : World), Way B w0 n0 G a0 e ops sis vals mems listed a w → Region.ready .any ops listed = [] → ∀ i, i < sis.length → listed.getD i false = true := by
    intro listed a w hw hr i
    induction i using Nat.strongRecOn with
    | _ i ih =>
      intro hi
      cases hl : listed.getD i false with
      | true => rfl
      | false =>
        exfalso
        have hio : i < ops.size := by omega
        have hmem : i ∈ Region.ready .any ops listed := by
          rw [mem_ready]
          refine ⟨?_, ops[i], Array.getElem?_eq_getElem hio, fun ed hed hb => ?_⟩
          · have : i < listed.size := by rw [hw.lsize]; exact hio
            simp [this] at hl ⊢; exact hl
          · have hk : ed.on ∈ edgesOf ops i := by
              unfold edgesOf
              rw [Array.getElem?_eq_getElem hio]
              exact List.mem_map.2 ⟨ed, List.mem_filter.2 ⟨by simpa using hed, hb⟩, rfl⟩
            exact ih ed.on (hD.edge i _ hi hk) (by have := hD.edge i _ hi hk; omega)
        rw [hr] at hmem
        cases hmem
  induction fuel with
  | zero =>
    intro rem listed a w hrem hun hw
    have hall : ∀ i, i < sis.length → listed.getD i false = true := fun i hi => by
      cases hl : listed.getD i false with
      | true => rfl
      | false =>
        have hm := hun i hi hl
        have hr0 : rem = [] := List.eq_nil_of_length_eq_zero (by omega)
        rw [hr0] at hm
        cases hm
    refine ⟨?_, fin listed a w hw hall⟩
    cases hr : Region.ready .any ops listed with
    | nil => rfl
    | cons j r =>
      exfalso
      have hj : j ∈ Region.ready .any ops listed := by rw [hr]; exact List.mem_cons_self ..
      obtain ⟨h0, o, ho, _⟩ := mem_ready.1 hj
      have hjl : j < sis.length := by rw [hops]; exact (Array.getElem?_eq_some_iff.1 ho).1
      have h1 := hall j hjl
      have : j < listed.size := by rw [hw.lsize, ← hops]; exact hjl
      simp [this] at h0 h1
      rw [h0] at h1; cases h1
  | succ fuel ih =>
    intro rem listed a w hrem hun hw
    refine ⟨fun hr => fin listed a w hw (none_ready listed a w hw hr), fun i hi => ?_⟩
    obtain ⟨h0, o, ho, hafter⟩ := mem_ready.1 hi
    have hio : i < ops.size := (Array.getElem?_eq_some_iff.1 ho).1
    have hil : i < sis.length := by omega
    obtain ⟨si, hsi⟩ : ∃ si, sis[i]? = some si := ⟨_, List.getElem?_eq_getElem hil⟩
    have hls : i < listed.size := by rw [hw.lsize]; exact hio
    have hunl : listed.getD i false = false := by simp [hls] at h0 ⊢; exact h0
    have hedge := edges_ready ho hafter
    have hanc := anc_done hD hw.closed (i + 1) i (by omega) hil hedge
    obtain ⟨p, G1, eS, hp, hmain, g1, g2, g3, g4, g5, g6⟩ := hw.st
    obtain ⟨o', ho', hslim⟩ := (slimL_get hs).2 i si hsi
    have : o' = o := by
      have h1 : ops[i]? = some o' := by simpa using ho'
      rw [ho] at h1; exact (Option.some.inj h1).symm
    subst this
    obtain ⟨hev, -⟩ := ht.step i si hsi
    -- the slots that it reads
    have henv : ∀ t ∈ si.reads, envs i t = eS t := by
      intro t htr
      obtain ⟨e1, e2⟩ := ht.env_at hD.dst t i (by omega)
      by_cases hex : ∃ (k : Nat) (sk : SI), k < i ∧ sis[k]? = some sk ∧ sk.d = some t
      · obtain ⟨k, sk, hk, hsk, hd⟩ := hex
        have hkd := hanc k (hD.reads k i sk si t hk hsk hsi hd htr)
        rw [e1 k sk hk hsk hd, g5 k sk t hsk hkd hd]
      · rw [e2 (fun k sk hk hsk hd => hex ⟨k, sk, hk, hsk, hd⟩), g6 t (fun k sk hsk hkl hd => ?_)]
        rcases Nat.lt_trichotomy k i with h | h | h
        · exact hex ⟨k, sk, h, hsk, hd⟩
        · subst h
          rw [hsi] at hsk
          obtain rfl := Option.some.inj hsk
          exact hD.self k si t hsi hd htr
        · exact hD.anti i k si sk t h hsi hsk hd htr
    rw [SI.ev_congr henv] at hev
    -- what stands behind i of those that turn memory is not done; what stands ahead is
    have later : ∀ (k : Nat) (sk : SI), i < k → sis[k]? = some sk → i ∈ ancs.getD k [] → listed.getD k false = false := by
      intro k sk hk hsk hia
      cases hl : listed.getD k false with
      | false => rfl
      | true =>
        have := anc_done hD hw.closed (k + 1) k (by omega) (getElem?_lt hsk) (hw.closed k (getElem?_lt hsk) hl) i hia
        rw [hunl] at this; cases this
    -- the operation in the memory of now
    have hev' : ∃ M1, si.ev cl eS (mems p) = some (vals i, M1) ∧ ((si.o.main = true ∧ M1 = mems (i + 1)) ∨ (si.o.main = false ∧ M1 = mems p)) := by
      cases hm : si.o.main with
      | true =>
        have hip : mems p = mems i := by
          have hnm : ∀ (k : Nat) (sk : SI), sis[k]? = some sk → sk.o.main = true → (k < p ↔ k < i) := by
            intro k sk hsk hmk
            constructor
            · intro hkp
              have hkl := (hmain k sk hsk hmk).2 hkp
              rcases Nat.lt_trichotomy k i with h | h | h
              · exact h
              · subst h; rw [hunl] at hkl; cases hkl
              · rw [later k sk h hsk (hD.main i k si sk h hsi hsk hm hmk)] at hkl; cases hkl
            · intro hki
              exact (hmain k sk hsk hmk).1 (hanc k (hD.main k i sk si hki hsk hsi hmk hm))
          rcases Nat.le_total p i with h | h
          · have := ht.mem_const (i - p) p (by omega) (fun k sk h1 h2 h3 => by
              cases hmk : sk.o.main with
              | false => rfl
              | true => have := (hnm k sk h3 hmk).2 (by omega); omega)
            rw [show p + (i - p) = i by omega] at this; exact this.symm
          · have := ht.mem_const (p - i) i (by omega) (fun k sk h1 h2 h3 => by
              cases hmk : sk.o.main with
              | false => rfl
              | true => have := (hnm k sk h3 hmk).1 (by omega); omega)
            rw [show i + (p - i) = p by omega] at this; exact this
        exact ⟨mems (i + 1), by rw [hip]; exact hev, .inl ⟨rfl, rfl⟩⟩
      | false =>
        refine ⟨mems p, ?_, .inr ⟨rfl, rfl⟩⟩
        rcases si_cases hev with ⟨hw1, hop⟩ | ⟨hw1, hv, -⟩
        · unfold SI.ev
          rw [hw1]
          simp only
          cases hl : si.o.isLd with
          | false => exact (quiet_op hm hl hop).2 (mems p)
          | true =>
            obtain ⟨gg, dd, so⟩ := si
            cases so <;> first | (cases hl; done) | skip
            case ld ag n x =>
              refine (ld_op hop).2 (mems p) fun b off cs hxv hb => ?_
              rcases Nat.le_total p i with h | h
              · -- some of those ahead of i are not done: no store among them
                have hns := ht.mem_boxes hbx (i - p) p (by omega) (fun k sk h1 h2 h3 => by
                  cases hst : sk.o.isSt with
                  | false => rfl
                  | true =>
                    have hki : k < i := by omega
                    have hkl := hanc k (hD.ldst k i sk _ hki h3 hsi (.inr ⟨hst, rfl⟩))
                    have hmk : sk.o.main = true := by cases hso : sk.o <;> rw [hso] at hst <;> first | rfl | cases hst
                    have := (hmain k sk h3 hmk).1 hkl
                    omega) b
                have hbl : b < (mems p).boxes.length := by
                  exact VE_reads (hD.ld i _ hsi) hxv g3
                have h1 := hns _ (List.getElem?_eq_getElem hbl)
                rw [show p + (i - p) = i by omega, hb] at h1
                rw [List.getElem?_eq_getElem hbl]; exact h1.symm
              · have hns := ht.mem_boxes hbx (p - i) i (by omega) (fun k sk h1 h2 h3 => by
                  cases hst : sk.o.isSt with
                  | false => rfl
                  | true =>
                    have hmk : sk.o.main = true := by cases hso : sk.o <;> rw [hso] at hst <;> first | rfl | cases hst
                    have hkl := (hmain k sk h3 hmk).2 (by omega)
                    rcases Nat.lt_or_ge i k with h4 | h4
                    · rw [later k sk h4 h3 (hD.ldst i k _ sk h4 hsi h3 (.inl ⟨rfl, hst⟩))] at hkl; cases hkl
                    · have : k = i := by omega
                      subst this
                      rw [hunl] at hkl; cases hkl) b cs hb
                rw [show i + (p - i) = p by omega] at hns
                exact hns
        · unfold SI.ev
          rw [hw1, hv]
    obtain ⟨M1, hev1, hM1⟩ := hev'
    have hdst := (slimI_inv hslim).2.2
    have hsize : a.tmps.size = a0.tmps.size := hw.size
    refine si_sound hcl g2 g3 (by rw [hsize, hsz0]; exact hslim) hev1 ho fun x w' G' q1 q2 q3 q4 q5 => ?_
    refine ih (rem.erase i) _ _ _ ?_ ?_ ?_
    · have := hun i hil hunl
      rw [List.length_erase_of_mem this]; omega
    · intro k hk hkl
      have hki : i ≠ k := fun h => by subst h; simp [hls] at hkl
      rw [getD_set_ne false hki] at hkl
      exact (List.mem_erase_of_ne (Ne.symm hki)).2 (hun k hk hkl)
    · have hdok : dstOk a.tmps.size o'.dst = true := by rw [hsize, hsz0]; exact hdst.2
      have hE' := g3.put q1.le q5 hdok q3 q4
      have hset : ∀ k, (listed.setIfInBounds i true).getD k false = true ↔ k = i ∨ listed.getD k false = true := by
        intro k
        by_cases hki : i = k
        · subst hki; simp [hls]
        · rw [getD_set_ne false hki]
          constructor
          · exact .inr
          · rintro (h | h)
            · exact absurd h.symm hki
            · exact h
      refine ⟨by simp [hw.lsize], ?_, by rw [put_defers]; exact hw.defers, by rw [put_size]; exact hw.size, ?_⟩
      · intro j hj hjl k hk
        rw [hset] at hjl ⊢
        rcases hjl with rfl | hjl
        · exact .inr (hedge k hk)
        · exact .inr (hw.closed j hj hjl k hk)
      · have slots : ∀ (q : Nat) (Gq : Gh), VE Gq (mems q).boxes.length (updO eS o'.dst (vals i)) (a.put o'.dst x) → Goes B n0 G Gq → Inv B w0 Gq (mems q) w' → n0 ≤ (mems q).boxes.length → q ≤ sis.length →
            (∀ (k : Nat) (sk : SI), sis[k]? = some sk → sk.o.main = true → ((listed.setIfInBounds i true).getD k false = true ↔ k < q)) →
            ∃ (p : Nat) (G1 : Gh) (eS : Env), p ≤ sis.length ∧ (∀ (k : Nat) (sk : SI), sis[k]? = some sk → sk.o.main = true → ((listed.setIfInBounds i true).getD k false = true ↔ k < p)) ∧
              Goes B n0 G G1 ∧ Inv B w0 G1 (mems p) w' ∧ VE G1 (mems p).boxes.length eS (a.put o'.dst x) ∧ n0 ≤ (mems p).boxes.length ∧
              (∀ (k : Nat) (sk : SI) (t : Nat), sis[k]? = some sk → (listed.setIfInBounds i true).getD k false = true → sk.d = some t → eS t = vals k) ∧
              (∀ t, (∀ (k : Nat) (sk : SI), sis[k]? = some sk → (listed.setIfInBounds i true).getD k false = true → sk.d ≠ some t) → eS t = e t) := by
          intro q Gq r1 r2 r3 r4 r5 r6
          refine ⟨q, Gq, _, r5, r6, r2, r3, r1, r4, ?_, ?_⟩
          · intro k sk t hsk hkl hd
            rw [hset] at hkl
            by_cases hki : k = i
            · subst hki
              rw [hsi] at hsk
              obtain rfl := Option.some.inj hsk
              rw [← hdst.1, hd]
              exact upd_same _ _ _
            · have hkl' := hkl.resolve_left hki
              have hne : o'.dst ≠ some t := by
                rw [← hdst.1]
                rcases Nat.lt_or_ge k i with h | h
                · exact hD.dst k i sk si t h hsk hsi hd
                · exact fun hh => hD.dst i k si sk t (by omega) hsi hsk hh hd
              have : updO eS o'.dst (vals i) t = eS t := by
                cases hdd : o'.dst with
                | none => rfl
                | some d => exact upd_ne _ _ _ _ (fun h => hne (by rw [hdd, h]))
              rw [this]
              exact g5 k sk t hsk hkl' hd
          · intro t hno
            have hne : o'.dst ≠ some t := by
              rw [← hdst.1]
              exact hno i si hsi ((hset i).2 (.inl rfl))
            have : updO eS o'.dst (vals i) t = eS t := by
              cases hdd : o'.dst with
              | none => rfl
              | some d => exact upd_ne _ _ _ _ (fun h => hne (by rw [hdd, h]))
            rw [this]
            exact g6 t fun k sk hsk hkl => hno k sk hsk ((hset k).2 (.inr hkl))
        rcases hM1 with ⟨hm, rfl⟩ | ⟨hm, rfl⟩
        · refine slots (i + 1) G' hE' (g1.trans q1 g4) q2 (by omega) (by omega) fun k sk hsk hmk => ?_
          rw [hset, hmain k sk hsk hmk]
          constructor
          · rintro (h | h)
            · omega
            · rcases Nat.lt_trichotomy k i with h2 | h2 | h2
              · omega
              · omega
              · have := later k sk h2 hsk (hD.main i k si sk h2 hsi hsk hm hmk)
                have h3 := (hmain k sk hsk hmk).2 h
                rw [this] at h3; cases h3
          · intro h
            rcases Nat.lt_or_ge k i with h2 | h2
            · exact .inr ((hmain k sk hsk hmk).1 (hanc k (hD.main k i sk si h2 hsk hsi hmk hm)))
            · exact .inl (by omega)
        · refine slots p G' hE' (g1.trans q1 g4) q2 (by omega) hp fun k sk hsk hmk => ?_
          rw [hset, hmain k sk hsk hmk]
          constructor
          · rintro (h | h)
            · subst h
              rw [hsi] at hsk
              obtain rfl := Option.some.inj hsk
              rw [hm] at hmk; cases hmk
            · exact h
          · exact .inr
end
end Go.AM

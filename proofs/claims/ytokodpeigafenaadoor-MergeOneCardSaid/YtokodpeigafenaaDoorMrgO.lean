/- Plain words: the law MergeOne. -/
import Derived.Test.YtokodpeigafenaaDoorMrgL
import Derived.Test.YtokodpeigafenaaDoorMrgW4
set_option linter.unusedSimpArgs false
set_option linter.unusedVariables false
set_option linter.unusedSectionVars false
namespace Go.Wk
open Go.HL
variable [DM]
def noneB (e : Bool) (s : List Ad) : Bool := !e && decide ((s.length : Int) = 0)
theorem noneP_ok {e : Bool} {s : List Ad} {Q : Bool → Prop} (h : Q (noneB e s)) : merge_none_W e s Q := by
  refine ⟨fun c => ?_, fun c => ?_⟩ <;> (unfold noneB at h; rw [c] at h; simpa using h)
theorem noneR_ok {e : Bool} {s : List Ad} {Q : Bool → Prop} (h : Q (noneB e s)) : ref19_None_W e s Q := by
  refine ⟨fun c => ?_, fun c => ?_⟩ <;> (unfold noneB at h; rw [c] at h; simpa using h)
def kindB (e : Bool) : Int := if e then 2 else 1
theorem currentP_ok {g : Ad} {e : Bool} {s : List Ad} {Q : Int → Bool → Ba 16 → List Ad → Bool → Prop} (hl : s.length ≤ 1000) (h0 : noneB e s = true → Q 0 false (default : Ba 16) [] false) (h1 : noneB e s = false → Q (kindB e) g.1 g.2 s true) : merge_Current_W g e s Q := by
  refine noneP_ok ⟨h0, fun c => clone_Ad (by omega) ?_⟩
  have := h1 c
  refine ⟨fun d => ?_, fun d => ?_⟩ <;> (subst d; exact this)
theorem sameA_ok {a : List Ad} {Q : Bool → Prop} (ha : a.length ≤ 100000) (h : Q true) : ref08_SameAddrs_W a a Q := by
  refine ⟨fun c => absurd rfl c, fun _ => ?_⟩
  refine loop_up1 a.length (fun _ => True) trivial fun K i hi _ hK => ?_
  show ref08_SameAddrs_l1 _ _ _ _ _
  unfold ref08_SameAddrs_l1
  refine ⟨fun d => ⟨by (first | omega | (unfold I64; omega) | (simp only [List.length_append, List.length_cons, List.length_nil, List.length_take, List.length_drop] at *; omega) | (unfold I64; simp only [List.length_append, List.length_cons, List.length_nil, List.length_take, List.length_drop] at *; omega)), by (first | omega | (unfold I64; omega) | (simp only [List.length_append, List.length_cons, List.length_nil, List.length_take, List.length_drop] at *; omega) | (unfold I64; simp only [List.length_append, List.length_cons, List.length_nil, List.length_take, List.length_drop] at *; omega)), ?_⟩, fun d => h⟩
  exact ⟨fun q => absurd rfl q, fun _ => ⟨by (first | omega | (unfold I64; omega) | (simp only [List.length_append, List.length_cons, List.length_nil, List.length_take, List.length_drop] at *; omega) | (unfold I64; simp only [List.length_append, List.length_cons, List.length_nil, List.length_take, List.length_drop] at *; omega)), hK (i + 1) (by omega) (by omega) trivial⟩⟩
theorem sameRec1_ok {k : Int} {g : Bool × Ba 16} {v w : Value} {s : List Ad} {Q : Bool → Prop} (hl : s.length ≤ 1000) (h : Q true) : ref08_SameRecords_W ([(k, g, (v, s))] : List T_api_Record) ([(k, g, (w, s))] : List T_api_Record) Q := by
  refine ⟨fun c => absurd rfl c, fun _ => ?_⟩
  refine loop_up1 1 (fun _ => True) trivial fun K i hi _ hK => ?_
  show ref08_SameRecords_l1 _ _ _ _ _
  unfold ref08_SameRecords_l1
  refine ⟨fun d => ?_, fun d => h⟩
  have i0 : i = 0 := by simp at d; omega
  subst i0
  refine ⟨by simp, by simp, fun q => absurd rfl q, fun _ => ⟨fun q => absurd rfl q, fun _ => sameA_ok (by show s.length ≤ 100000; omega) ⟨fun q => (by cases q), fun _ => ⟨by decide, hK 1 (by omega) (by omega) trivial⟩⟩⟩⟩
theorem sameFR_ok {e e2 : Bool} {s t : List Ad} {Q : Bool → Prop} (hl : s.length ≤ 1000) (h : Q (decide ((e, s) = (e2, t)))) : ref19_Same_W e s e2 t Q := by
  refine ⟨fun c => sameR_ok (by omega) ?_, fun c => ?_⟩
  · have c : e = e2 := by simpa using c
    subst c; simpa using h
  · have c : e ≠ e2 := by simpa using c
    have : decide ((e, s) = (e2, t)) = false := decide_eq_false fun q => c (congrArg Prod.fst q)
    rw [this] at h; exact h
theorem sameFP_ok {e e2 : Bool} {s t : List Ad} {Q : Bool → Prop} (hl : s.length ≤ 1000) (h : Q (decide ((e, s) = (e2, t)))) : merge_Same_W e s e2 t Q := by
  refine ⟨fun c => equal_Ad (by omega) ?_, fun c => ?_⟩
  · have c : e = e2 := by simpa using c
    subst c; simpa using h
  · have c : e ≠ e2 := by simpa using c
    have : decide ((e, s) = (e2, t)) = false := decide_eq_false fun q => c (congrArg Prod.fst q)
    rw [this] at h; exact h
theorem answerR_ok {e : Bool} {s l : List Ad} {Q : List Ad → Prop} (hs : s.length ≤ 1000) (hl : l.length ≤ 100) (h : Q ((ofL l).filter fun x => letsB (e, s) x)) : ref19_Answer_W e s l Q := by
  have hn := ofL_len l
  refine ofR_ok (by omega) ?_
  refine loop_up (ofL l).length (fun i o => o = ((ofL l).take i).filter fun x => letsB (e, s) x) rfl fun K i o hi ho hK => ?_
  have lo : o.length ≤ i := by rw [ho]; refine Nat.le_trans (List.length_filter_le _ _) ?_; rw [List.length_take]; omega
  show ref19_Answer_l1 e s Q (ofL l) _ o (i : Int)
  unfold ref19_Answer_l1
  refine ⟨fun d => ⟨by (first | omega | (unfold I64; omega) | (simp only [List.length_append, List.length_cons, List.length_nil, List.length_take, List.length_drop] at *; omega) | (unfold I64; simp only [List.length_append, List.length_cons, List.length_nil, List.length_take, List.length_drop] at *; omega)), ?_⟩, fun d => ?_⟩
  · have i1 : i < (ofL l).length := by omega
    rw [gi_nat i1]
    refine letsR_ok hs ⟨fun c => ⟨by (first | omega | (unfold I64; omega) | (simp only [List.length_append, List.length_cons, List.length_nil, List.length_take, List.length_drop] at *; omega) | (unfold I64; simp only [List.length_append, List.length_cons, List.length_nil, List.length_take, List.length_drop] at *; omega)), by (first | omega | (unfold I64; omega) | (simp only [List.length_append, List.length_cons, List.length_nil, List.length_take, List.length_drop] at *; omega) | (unfold I64; simp only [List.length_append, List.length_cons, List.length_nil, List.length_take, List.length_drop] at *; omega)), hK (i + 1) _ (by omega) (by omega) ?_⟩, fun c => ⟨by (first | omega | (unfold I64; omega) | (simp only [List.length_append, List.length_cons, List.length_nil, List.length_take, List.length_drop] at *; omega) | (unfold I64; simp only [List.length_append, List.length_cons, List.length_nil, List.length_take, List.length_drop] at *; omega)), hK (i + 1) _ (by omega) (by omega) ?_⟩⟩ <;>
      (rw [List.take_succ_eq_append_getElem i1, List.filter_append, ← ho]; simp [c])
  · have i1 : i = (ofL l).length := by omega
    subst i1
    rw [List.take_length] at ho
    rw [ho]; exact h
theorem answerP_ok {e : Bool} {s l : List Ad} {Q : List Ad → Prop} (hs : ASet s) (h1 : s.length ≤ 1000) (hl : l.length ≤ 100) (h : Q ((ofL l).filter fun x => letsB (e, s) x)) : merge_Answer_W e s l Q := by
  have hn := ofL_len l
  have ho := ofL_set l
  refine ofP_ok (by omega) ⟨fun c => ?_, fun c => ?_⟩ <;> subst c
  · refine minusP_ok ho hs (by omega) ?_
    have : minusL (ofL l) s = (ofL l).filter fun x => letsB (true, s) x := by
      unfold minusL letsB; congr 1; funext x; cases aIn s x <;> rfl
    rw [this]; exact h
  · refine andP_ok hs ho (by omega) ?_
    have : andL s (ofL l) = (ofL l).filter fun x => letsB (false, s) x :=
      (hs.filter _).ext (ho.filter _) fun x => by
        show x ∈ andL s (ofL l) ↔ _
        rw [mem_andL, List.mem_filter]
        unfold letsB aIn; simp [and_comm]
    rw [this]; exact h
theorem mergeOne_ok {e e2 : Bool} {s t l : List Ad} {g a : Ad} {Q : Bool → Prop} (h : Q true) : law19_MergeOne_W e s e2 t g a l Q := by
  refine fewP_ok (fewP_ok (addrs_ok ?_))
  have hs := ofL_set (s.take 6)
  have ht := ofL_set (t.take 6)
  have ls : (ofL (s.take 6)).length ≤ 6 := Nat.le_trans (ofL_len _) (by rw [List.length_take]; omega)
  have lt : (ofL (t.take 6)).length ≤ 6 := Nat.le_trans (ofL_len _) (by rw [List.length_take]; omega)
  have ll : (l.take 6).length ≤ 6 := by rw [List.length_take]; omega
  generalize ofL (s.take 6) = s at *
  generalize ofL (t.take 6) = t at *
  generalize hl6 : l.take 6 = m at *
  have m6 : m.take 6 = m := List.take_of_length_le ll
  have tail : ∀ (r0 : Int) (r1 : Bool) (r2 : Ba 16) (r18 : List Ad), r18.length ≤ 6 → law19_MergeOne_j5 Q e s m r0 r1 r2 r18 r0 r1 r2 r18 := by
    intro r0 r1 r2 r18 hl v w
    refine sameRec1_ok (by omega) ⟨fun _ => fewP_id hs ls (addrs_ok ?_), fun c => (by cases c)⟩
    rw [m6]
    refine answerP_ok hs (by omega) (by omega) (answerR_ok (by omega) (by omega) (sameR_ok ?_ ?_))
    · have := ofL_len m; refine Nat.le_trans (List.length_filter_le _ _) (by omega)
    · rw [decide_eq_true rfl]; exact ⟨fun _ => livesP_ok h, fun c => (by cases c)⟩
  have mid : ∀ (r0 : Int) (r1 : Bool) (r2 : Ba 16) (r18 : List Ad) (ok : Bool), ok = !noneB e s → (noneB e s = true → r0 = 0 ∧ r1 = false ∧ r2 = default ∧ r18 = []) → (noneB e s = false → r0 = kindB e ∧ r1 = a.1 ∧ r2 = a.2 ∧ r18 = s) → law19_MergeOne_j2 a Q e s e2 t m r0 r1 r2 r18 ok := by
    intro r0 r1 r2 r18 ok hok h0 h1
    refine letsP_ok hs (by omega) (letsR_ok (by omega) ⟨fun c => by simp at c, fun _ => noneP_ok (noneR_ok ⟨fun c => by simp at c, fun _ => fewP_id hs ls (fewP_id ht lt (sameFP_ok (by omega) (sameFR_ok (by omega) ⟨fun c => by simp at c, fun _ => noneR_ok ⟨fun c => ?_, fun _ => ?_⟩⟩)))⟩)⟩)
    · rw [hok] at c; cases q : noneB e s <;> rw [q] at c <;> cases c
    · have j4 : ∀ w, (noneB e s = false → w = kindB e) → law19_MergeOne_j4 a Q e s m r0 r1 r2 r18 w := by
        intro w hw
        refine noneR_ok ⟨fun c => ?_, fun c => ?_⟩
        · obtain ⟨rfl, rfl, rfl, rfl⟩ := h0 c; exact tail _ _ _ _ (by simp)
        · obtain ⟨rfl, rfl, rfl, rfl⟩ := h1 c; rw [hw c]; exact tail _ _ _ _ ls
      refine ⟨fun c => j4 2 fun _ => by rw [c]; rfl, fun c => j4 1 fun _ => by rw [c]; rfl⟩
  refine fewP_id hs ls (currentP_ok (by omega) (fun c => mid _ _ _ _ _ (by rw [c]; rfl) (fun _ => ⟨rfl, rfl, rfl, rfl⟩) (fun d => by rw [c] at d; cases d)) (fun c => mid _ _ _ _ _ (by rw [c]; rfl) (fun d => by rw [c] at d; cases d) (fun _ => ⟨rfl, rfl, rfl, rfl⟩)))
end Go.Wk

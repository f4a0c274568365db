/- Plain words: the laws of addresses. -/
import Derived.Test.YtamiodnbinhmhaaDoorAdrM
set_option linter.unusedSimpArgs false
set_option linter.unusedVariables false
set_option linter.unusedSectionVars false
namespace Go.Wk
open Go.HL
variable [DM]
theorem cutT_any {s : Str} {n : Nat} {Q : Str → Prop} (h : ∀ r : Str, r.length ≤ n → Q r) : law01_Cut_W s (n : Int) Q := by
  refine ⟨fun c => ⟨by omega, h _ ?_⟩, fun c => h _ (by omega)⟩
  show (cut s 0 (n : Int)).length ≤ n
  unfold cut; simp; omega
/-- An address that is good. -/
def ownA (a : Ad) : Ad := if a.1 = true then a else (false, ⟨a.2.1.take 4 ++ List.replicate 12 0, by rw [List.length_append, List.length_take, a.2.2, List.length_replicate]; rfl⟩)
theorem ownA_good (a : Ad) : goodA (ownA a) := by
  unfold ownA
  split
  · left; assumption
  · right
    show (a.2.1.take 4 ++ List.replicate 12 0).drop 4 = _
    rw [List.drop_left' (by rw [List.length_take, a.2.2]; rfl)]
theorem own_ok {a : Ad} {Q : Ad → Prop} (h : Q (ownA a)) : ref03_Own_W a Q := by
  have h16 := a.2.2
  refine loop_from (fun s => s.2) 4 16 (fun i s => 4 ≤ i ∧ s.1.1 = if a.1 = true then a.2.1 else a.2.1.take 4 ++ List.replicate (i - 4) 0 ++ a.2.1.drop i) rfl (by omega) ⟨by omega, ?_⟩ ?_
  · dsimp only
    split
    · rfl
    · show a.2.1 = a.2.1.take 4 ++ [] ++ a.2.1.drop 4
      rw [List.append_nil, List.take_append_drop]
  · rintro K i ⟨X, _⟩ rfl hi ⟨h4, hX⟩ hK
    dsimp only at hX ⊢
    unfold ref03_Own_l1
    refine ⟨fun c => ⟨fun d => ⟨by omega, by unfold I64; omega, hK (i + 1) _ rfl (by omega) (by omega) ⟨by omega, ?_⟩⟩, fun d => ⟨by unfold I64; omega, hK (i + 1) _ rfl (by omega) (by omega) ⟨by omega, ?_⟩⟩⟩, fun c => ?_⟩
    · have hv : a.1 = false := by simpa using d
      rw [if_neg (by rw [hv]; decide)] at hX ⊢
      show X.1.set (i : Int).toNat (UInt8.ofNat (0 : Int).toNat) = _
      rw [hX, Int.toNat_natCast]
      have hl : (a.2.1.take 4 ++ List.replicate (i - 4) 0).length = i := by rw [List.length_append, List.length_take, h16, List.length_replicate]; omega
      rw [List.set_append_right _ _ (by omega), hl, Nat.sub_self, List.drop_eq_getElem_cons (by omega), List.set_cons_zero, show i + 1 - 4 = (i - 4) + 1 by omega, List.replicate_succ']
      simp
    · have hv : a.1 = true := by simpa using d
      rw [if_pos hv] at hX ⊢; exact hX
    · have i16 : i = 16 := by omega
      subst i16
      have e : (a.1, X) = ownA a := by
        unfold ownA
        split
        · rename_i hv
          rw [if_pos hv] at hX
          exact Prod.ext rfl (Subtype.ext hX)
        · rename_i hv
          rw [if_neg hv, List.drop_eq_nil_of_le (by omega), List.append_nil] at hX
          exact Prod.ext (by simpa using hv) (Subtype.ext hX)
      rw [e]; exact h
theorem good_ok {a : Ad} (ha : goodA a) {Q : Bool → Prop} (h : Q true) : ref03_Good_W a Q := by
  refine loop_from (fun s => s) 4 16 (fun i _ => 4 ≤ i) rfl (by omega) (by omega) ?_
  rintro K i _ rfl hi h4 hK
  unfold ref03_Good_l1
  refine ⟨fun c => ⟨fun d => ⟨by omega, fun q => absurd ?_ q, fun _ => ⟨by unfold I64; omega, hK (i + 1) _ (by omega) (by omega) (by omega) (by omega)⟩⟩, fun _ => ⟨by unfold I64; omega, hK (i + 1) _ (by omega) (by omega) (by omega) (by omega)⟩⟩, fun _ => h⟩
  have hv : a.1 = false := by simpa using d
  have hd : a.2.1.drop 4 = List.replicate 12 0 := by rcases ha with q | q; rw [hv] at q; cases q; exact q
  have h16 := a.2.2
  rw [b8_by a (by omega)]
  unfold by8
  have e : a.2.1.getD i 0 = 0 := by
    rw [List.getD_eq_getElem?_getD, show i = 4 + (i - 4) by omega, ← List.getElem?_drop, hd, List.getElem?_replicate]
    split <;> rfl
  rw [e]; rfl
theorem readR_ok {b : Str} {Q : Ad → Bool → Prop} (h1 : b.length = 4 ∨ b.length = 16 → Q (rdA b) true) (h2 : ¬ (b.length = 4 ∨ b.length = 16) → Q (false, (default : Ba 16)) false) : ref03_Read_W b Q := by
  have j1 : (b.length = 4 ∨ b.length = 16) → ref03_Read_j1 b Q := by
    intro hb
    refine loop_up b.length (fun i X => X.1 = b.take i ++ List.replicate (16 - i) 0) rfl fun K i X hi hX hK => ?_
    show ref03_Read_l1 b Q _ X (i : Int)
    unfold ref03_Read_l1
    refine ⟨fun c => ⟨by omega, by omega, by unfold I64; omega, hK (i + 1) _ (by omega) (by omega) ?_⟩, fun c => ?_⟩
    · have i1 : i < b.length := by omega
      show X.1.set (i : Int).toNat (UInt8.ofNat ((((gi b (i : Int)).toNat : Nat) : Int)).toNat) = _
      have hl : (b.take i).length = i := by rw [List.length_take]; omega
      rw [gi_nat i1, Int.toNat_natCast, Int.toNat_natCast, UInt8.ofNat_toNat, hX, List.set_append_right _ _ (by omega), hl, Nat.sub_self, show 16 - i = (16 - (i + 1)) + 1 by omega, List.replicate_succ, List.set_cons_zero, List.take_succ_eq_append_getElem i1, List.append_assoc]
      rfl
    · have i1 : i = b.length := by omega
      subst i1
      have e : X = cpyB (default : Ba 16) b := by
        refine Subtype.ext ?_
        rw [hX, List.take_length]
        show _ = b.take 16 ++ (default : Ba 16).1.drop (b.take 16).length
        rw [List.take_of_length_le (by omega), def16, List.drop_replicate]
      rw [e]; exact h1 hb
  exact ⟨fun c => ⟨fun d => h2 (by omega), fun d => j1 (by omega)⟩, fun c => j1 (by omega)⟩
theorem bytes_ok {a : Ad} {Q : Str → Prop} (h : Q (bOf a)) : addr_Bytes_W a Q := by
  have h16 := a.2.2
  refine ⟨fun c => ?_, fun c => ?_⟩
  · unfold bOf at h; rw [if_pos c] at h
    have : cut a.2.1 0 16 = a.2.1 := List.take_of_length_le (by rw [h16]; decide)
    rw [this]; exact h
  · unfold bOf at h; rw [if_neg (by rw [c]; decide)] at h
    have : cut a.2.1 0 4 = a.2.1.take 4 := rfl
    rw [this]; exact h
theorem bOf_rd {b : Str} (h : b.length = 4 ∨ b.length = 16) : bOf (rdA b) = b := by
  unfold bOf rdA
  rcases h with h | h
  · rw [if_neg (by show ¬ decide ((b.length : Int) = 16) = true; rw [h]; decide)]
    show (b.take 16 ++ (default : Ba 16).1.drop (b.take 16).length).take 4 = b
    rw [List.take_of_length_le (i := 16) (by omega), List.take_left' h]
  · rw [if_pos (by show decide ((b.length : Int) = 16) = true; rw [h]; decide)]
    show b.take 16 ++ (default : Ba 16).1.drop (b.take 16).length = b
    rw [List.take_of_length_le (by omega), List.drop_eq_nil_of_le (by rw [def16, List.length_replicate]; omega), List.append_nil]
/-! ### A small living call -/
def one6 : Ad := (true, mkB 16 [255, 2, 0, 0, 0, 0, 0, 0, 0, 0, 0, 0, 0, 0, 0, 1])
theorem one6_txt : txt one6 = [102, 102, 48, 50, 58, 58, 49] := by
  have hr : rowOf one6 = (1, 6) := by decide +kernel
  unfold txt
  rw [if_pos (by decide), hr, if_neg (by decide)]
  have w0 : wd one6 0 = 65282 := by decide +kernel
  have w7 : wd one6 7 = 1 := by decide +kernel
  have n0 : numL 16 65282 = [102, 102, 48, 50] := by
    rw [numL_ge (by decide) (by decide), numL_ge (by decide) (by decide), numL_ge (by decide) (by decide), numL_lt (by decide)]; rfl
  have n7 : numL 16 1 = [49] := by rw [numL_lt (by decide)]; rfl
  show joinS [numL 16 (wd one6 0)] [58] ++ [58, 58] ++ joinS [numL 16 (wd one6 7)] [58] = _
  rw [w0, w7, n0, n7, joinS_one, joinS_one]; rfl
theorem lives03_ok {Q : Bool → Prop} (h : Q true) : law03_lives_W Q := by
  unfold law03_lives_W
  rw [← one6_txt]
  refine parse_good (.inl rfl) ?_
  refine ⟨by decide, by decide, by decide, by decide, ?_⟩
  have ee : ((u8w ((b8 (false, mkB 16 [239, 129, 2, 3, 0, 0, 0, 0, 0, 0, 0, 0, 0, 0, 0, 0]).2 0).fdiv (2 ^ (min (4 : Int).toNat IntKind.u8.bits)))).toNat : Int) = 14 := by decide +kernel
  refine ⟨fun c => (by cases c), fun _ => ⟨by decide +kernel, ⟨fun c => ?_, fun _ => ⟨fun c => (by cases c), fun _ => ⟨by decide +kernel, ⟨fun _ => ⟨fun _ => ⟨fun _ => ⟨fun _ => text_ok ⟨fun _ => ⟨fun _ => pmacP_ok ?_, fun c => (by cases c)⟩, fun c => absurd rfl c⟩, fun c => absurd (by decide +kernel) c⟩, fun c => absurd (by decide +kernel) c⟩, fun c => (by cases c)⟩, fun c => absurd rfl c⟩⟩⟩⟩⟩⟩
  · rw [ee] at c; cases c
  · have : decide ((macT (mkB 6 [1, 0, 94, ((u8w (bits .and .u8 (b8 (false, mkB 16 [239, 129, 2, 3, 0, 0, 0, 0, 0, 0, 0, 0, 0, 0, 0, 0]).2 1) 127)).toNat : Int), b8 (false, mkB 16 [239, 129, 2, 3, 0, 0, 0, 0, 0, 0, 0, 0, 0, 0, 0, 0]).2 2, b8 (false, mkB 16 [239, 129, 2, 3, 0, 0, 0, 0, 0, 0, 0, 0, 0, 0, 0, 0]).2 3]) : Str) = [48, 49, 58, 48, 48, 58, 53, 101, 58, 48, 49, 58, 48, 50, 58, 48, 51]) = true := by decide +kernel
    rw [this]; exact h
/-! ### The laws -/
theorem addrReads_ok {s : Str} {Q : Bool → Prop} (h : Q true) : law03_AddrReads_W s Q := by
  refine cutT_any (n := 20) fun r hr => read_ok (fun h4 => readR_ok (fun _ => ?_) (fun q => absurd h4 q)) (fun h4 => readR_ok (fun q => absurd q h4) (fun _ => ?_))
  · refine ⟨fun _ => ⟨fun _ => ⟨fun _ => bytes_ok ?_, fun c => (by cases c)⟩, fun c => (by simp at c)⟩, fun c => absurd rfl c⟩
    rw [bOf_rd h4]
    exact ⟨fun _ => lives03_ok h, fun c => absurd rfl c⟩
  · exact ⟨fun _ => ⟨fun _ => ⟨fun c => (by cases c), fun _ => ⟨fun _ => lives03_ok h, fun c => absurd rfl c⟩⟩, fun c => (by simp at c)⟩, fun c => absurd rfl c⟩
theorem addrPrints_ok {a : Ad} {m : Ba 6} {Q : Bool → Prop} (h : Q true) : law03_AddrPrints_W a m Q := by
  refine own_ok ?_
  have hg := ownA_good a
  generalize ownA a = a at hg
  refine printR_ok (parse_good hg (pmacR_ok (parseMac_good (text_ok (printR_ok ⟨fun _ => ⟨fun _ => ⟨fun _ => pmacP_ok (pmacR_ok ⟨fun _ => ⟨fun _ => ⟨fun _ => lives03_ok h, fun c => absurd rfl c⟩, fun c => absurd rfl c⟩, fun c => absurd rfl c⟩), fun c => absurd rfl c⟩, fun c => absurd rfl c⟩, fun c => absurd rfl c⟩)))))
theorem addrParses_ok {s : Str} {Q : Bool → Prop} (h : Q true) : law03_AddrParses_W s Q := by
  refine cutT_any (n := 45) fun r hr => ?_
  have j1 : ∀ (m : Ba 6) (e : Int), ((e = 0 ∧ macT m = r) ∨ (e = 2 ∧ m = mkB 6 [0, 0, 0, 0, 0, 0])) → law03_AddrParses_j1 Q r m e := by
    rintro m e (⟨rfl, hm⟩ | ⟨rfl, rfl⟩)
    · refine ⟨fun _ => pmacR_ok ⟨fun _ => lives03_ok h, fun c => absurd hm c⟩, fun c => absurd rfl c⟩
    · exact ⟨fun c => absurd c (by decide), fun _ => ⟨fun _ => ⟨fun _ => lives03_ok h, fun c => absurd rfl c⟩, fun c => absurd rfl c⟩⟩
  have mac : ∀ (P : Ba 6 → Int → Prop), (∀ m e, ((e = 0 ∧ macT m = r) ∨ (e = 2 ∧ m = mkB 6 [0, 0, 0, 0, 0, 0])) → P m e) → addr_ParseMac_W r P := fun P hP =>
    parseMac_any (by omega) (fun m hm => hP m 0 (.inl ⟨rfl, hm⟩)) (fun _ => hP _ 2 (.inr ⟨rfl, rfl⟩)) (fun _ _ _ _ _ => trivial)
  refine parse_any (by omega) (fun a ha e => mac _ fun m k hm => ⟨fun _ => good_ok ha ⟨fun c => (by cases c), fun _ => printR_ok ⟨fun c => absurd e c, fun _ => j1 m k hm⟩⟩, fun c => absurd rfl c⟩) (fun _ => mac _ fun m k hm => ⟨fun c => absurd c (by decide), fun _ => ⟨fun c => absurd rfl c, fun _ => ⟨fun c => absurd rfl c, fun _ => j1 m k hm⟩⟩⟩)
end Go.Wk

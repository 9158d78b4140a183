/- Open shells have room: the law returns true for all bytes. No condition. -/
import Derived.Test.YtocknafdgeneoaaDrawConfs
import Derived.Test.YtocknafdgeneoaaConfPlain2
import Derived.Test.YtocknafdgeneoaaSameSh
namespace Go.Proofs.Ytocknafdgeneoaa.fnConfigOpen
open Go.ChangeShapes Go.WideShapes Go.ChangeAt Go.RowKit Go.Deep Go.Joins
set_option linter.unusedVariables false

theorem find_mem {p : Sh → Bool} : ∀ {l : List Sh} {s : Sh}, s ∈ l → p s = true → (∀ t ∈ l, p t = true → t = s) → l.find? p = some s := by
  intro l
  induction l with
  | nil => intro s h; simp at h
  | cons x l ih =>
    intro s hs hp hu
    cases hx : p x
    · rw [List.find?_cons, hx]
      refine ih ?_ hp fun t ht => hu t (by simp [ht])
      rcases List.mem_cons.1 hs with rfl | h
      · rw [hp] at hx; cases hx
      · exact h
    · rw [List.find?_cons, hx, hu x (by simp) hx]
theorem ord_uniq {l : List Sh} (h : Ord l) {s t : Sh} (hs : s ∈ l) (ht : t ∈ l) (h1 : t.1 = s.1) (h2 : t.2.1 = s.2.1) : t = s := by
  obtain ⟨i, hi, rfl⟩ := List.mem_iff_getElem.1 hs
  obtain ⟨j, hj, rfl⟩ := List.mem_iff_getElem.1 ht
  have h' := List.pairwise_iff_getElem.1 h
  rcases Nat.lt_trichotomy i j with hlt | rfl | hlt
  · have := lessB_iff.1 (h' i j hi hj hlt); omega
  · rfl
  · have := lessB_iff.1 (h' j i hj hi hlt); omega
theorem elAt_mem {l : List Sh} (h : cfgB l = true) {s : Sh} (hs : s ∈ l) : elAt l s.1 s.2.1 = s.2.2 := by
  have := find_mem (p := fun t => t.1 == s.1 && t.2.1 == s.2.1) hs (by simp) fun t ht hp => by
    simp at hp
    exact ord_uniq (cfg_iff.1 h).2.1 hs ht hp.1 hp.2
  unfold elAt
  rw [this]
theorem open_get {l : List Sh} (h : cfgB l = true) {k : Nat} {s : Sh} (hs : (openL l)[k]? = some s) : s.2.2 < cap s.2.1 ∧ elAt l s.1 s.2.1 = s.2.2 := by
  have hm : s ∈ openL l := by
    obtain ⟨hi, he⟩ := List.getElem?_eq_some_iff.1 hs
    rw [← he]; exact List.getElem_mem _
  rw [openL_filter h, List.mem_filter] at hm
  exact ⟨by simpa [isOpen] using hm.2, elAt_mem h hm.1⟩

theorem el_atz {v : Value} {l : List Sh} {n o : Int} {w : World} (hv : ShAt w w.heap.size v l) {z : Int} (hz : elAt l n o = z) :
    Calls Try.prog 31 #[v, .int .i64 n, .int .i64 o] w fun e w' => e = .returned (.int .i64 z) ∧ Below w.heap.size w w' := by
  rw [← hz]; exact el_at v l n o w hv

set_option maxHeartbeats 4000000 in
set_option maxRecDepth 100000 in
theorem walk (a : Option Addr) (n c : Nat) (W : World) (hnc : n ≤ c) (hcm : c ≤ maxLen) (hb : Bytes W W.heap.size a n) :
    Calls Try.prog 9 #[.slice a n c] W fun e W' => e = .returned (.bool true) ∧ Below W.heap.size W W' := by
  have hcm' := hcm
  unfold maxLen at hcm'
  by_cases hn : 1048576 < n
  · go_enter Try.func9, Try.ntmps9
    go_wp2_with fail
    go_ret
    exact ⟨rfl, (by repeat (first | exact Below.refl _ _ | assumption | refine bel_drewN ?_ _ | refine bel_drew ?_ | refine bel_alloc ?_ _ | refine bel_set ?_ (by simp; omega) _ | refine bel_set ?_ (by simp) _ | refine bel_trans ?_ (by assumption)))⟩
  · go_enter Try.func9, Try.ntmps9
    go_wp2_with fail
    refine (draw_conf_open _ _ _ _ hnc hcm hb).mono ?_
    rintro e w1 ⟨v, l, rfl, hl, ho, hw1⟩
    clear hb
    go_wp2_with fail
    refine (impl_open _ l _ ho.at_ (by omega)).mono ?_
    rintro e w2 ⟨vo, rfl, hoo, hw2⟩
    have L2 := bel_trans hw1 hw2
    have ho2 := ho.below hw2
    clear hw1 hw2 ho
    go_wp2_with fail
    refine (spec_open _ l _ ho2.at_ (by omega)).mono ?_
    rintro e w3 ⟨vs, rfl, hos, hw3⟩
    have L3 := bel_trans L2 hw3
    have ho3 := ho2.below hw3
    have hoo3 := hoo.below hw3
    clear L2 hw3 ho2 hoo
    have hol : (openL l).length ≤ 12 := by
      unfold openL
      split
      · exact Nat.le_trans (openUp_le l _) hl
      · simp
    have hcf : (openL l).length ≠ 0 → cfgB l = true := by
      intro h
      cases hc : cfgB l
      · exact absurd (by simp [openL, hc]) h
      · rfl
    obtain ⟨q, hq⟩ : ∃ q, openL l = q := ⟨_, rfl⟩
    rw [hq] at hol hcf hoo3 hos
    have HQ := Lib.hid hq
    clear hq
    obtain ⟨Ao, co, hvo, hqc, hcom, _⟩ := hoo3.at_
    subst hvo
    go_wp2_with fail
    refine (same_shells _ _ q _ hoo3.at_ hos.at_).mono ?_
    rintro e w4 ⟨rfl, hw4⟩
    have L4 := bel_trans L3 hw4
    have ho4 := ho3.below hw4
    have hoo4 := hoo3.below hw4
    have hos4 := hos.below hw4
    clear L3 hw4 ho3 hoo3 hos
    by_cases hq0 : q.length = 0
    · obtain rfl : q = [] := List.eq_nil_of_length_eq_zero hq0
      have ha : ShAt w4 w4.heap.size (.slice Ao 0 co) [] := hoo4.at_
      have hsa := hos4.at_
      clear hq0 hcf hol hoo4 hos4
      go_wp2_with fail
      refine (same_shells _ _ [] _ ha hsa).mono ?_
      rintro e w5 ⟨rfl, hw5⟩
      go_wp2_with fail
      go_ret
      exact ⟨rfl, bel_trans L4 hw5⟩
    · have hd6 : ((q.length : Int) == 0) = false := by rw [beq_eq_false_iff_ne]; omega
      have hc := hcf hq0
      have HC := Lib.hid hc
      have HOG := Lib.hid (fun k s => @open_get l hc k s)
      have hqc2 : cfgB q = true := by rw [← HQ.out]; exact open_cfg hc (by rw [HQ.out]; omega)
      have hqa : openL q = q := by have := open_again hc (by rw [HQ.out]; omega); rw [HQ.out] at this; exact this
      have HQC := Lib.hid hqc2
      have HQA := Lib.hid hqa
      clear hc hcf hqc2 hqa hos4
      unfold maxLen at hcom
      go_wp2_with fail
      go_loopg [6] q.length (fun gk i wr => ∃ k : Nat, gk = q.length - k ∧ k ≤ q.length ∧ i = .int .i64 k ∧ OwnSh wr w1.heap.size (.slice Ao q.length co) q ∧ OwnSh wr W.heap.size v l ∧ Below W.heap.size W wr)
      case atStart => exact ⟨0, rfl, by omega, rfl, hoo4, ho4, L4⟩
      case round =>
        clear hoo4 ho4 L4
        obtain ⟨k, rfl, hk, rfl, hoo4, ho4, L4⟩ := hrel
        by_cases hlt : k < q.length
        · have hlt' : (k : Int) < (q.length : Int) := by omega
          obtain ⟨s, hs⟩ : ∃ s, q[k]? = some s := ⟨_, List.getElem?_eq_getElem hlt⟩
          obtain ⟨hs1, hs2⟩ := HOG.out k s (by rw [HQ.out]; exact hs)
          rcases hoo4.free with ⟨_, h0⟩ | ⟨g, cp, cur, hgb, hBg, hvv, hcp, hcm2, hcur, hsz⟩
          · omega
          · injection hvv with hA _ hcc
            subst hA
            obtain ⟨r0, r1, r2⟩ := cells_own hoo4 rfl hs
            have hgl := (World.ownsRow.lt hoo4 g rfl).2
            have HS2 := Lib.hid hs2
            have hd1 : decide (cap s.2.1 ≤ s.2.2) = false := by simp; omega
            have hd2 : (s.2.2 != s.2.2) = false := by simp
            have hva := ho4.at_
            obtain ⟨Av, cv, hve, _⟩ := ho4.at_
            have HVE := Lib.hid hve
            clear hs hs1 hs2 hcur hsz hcc hgb hve
            go_wp2_with fail
            have LB := L4
            (refine wp_region_bel (by kernel_rfl) (by kernel_rfl) ?_; (repeat (first | go_big_quiet_skip | (go_big_quiet_want; first | (go_big_quiet_op; go_big_quiet_on) | (unfold Oper.quiet; apply Exists.intro; refine ⟨fun wx hCx => ?_, ?_⟩; (focus (obtain ⟨hcx, hfx⟩ := bcell hCx; go_simp; first | done | exact rfl | (with_reducible exact (impl_cap' s.2.1 _).mono (fun _ _ hz => ⟨hz.1, bel_trans hCx hz.2⟩)) | (with_reducible exact (el_atz (hva.bel hCx) HS2.out).mono (fun _ _ hz => ⟨hz.1, bel_trans hCx hz.2⟩)) | exact (impl_cap' s.2.1 _).mono (fun _ _ hz => ⟨hz.1, bel_trans hCx hz.2⟩) | exact (el_atz (hva.bel hCx) HS2.out).mono (fun _ _ hz => ⟨hz.1, bel_trans hCx hz.2⟩))); simp only [Act.put, List.setIfInBounds_toArray, List.set_cons_zero, List.set_cons_succ]; go_big_quiet_on)))); refine wpQuiet_nil ?_; intro wq hCq)
            go_wp2_with fail
            go_roundg (q.length - (k + 1))
            case measure => omega
            case rel => exact ⟨k + 1, rfl, by omega, by go_num, hoo4.below hCq, ho4.below hCq, bel_trans L4 hCq⟩
        · have HK := Lib.hid (show k = q.length by omega)
          have hqa := hoo4.at_
          go_wp2_with fail
          refine (impl_cfg _ q _ hqa).mono ?_
          rintro e w5 ⟨rfl, hw5⟩
          have L5 := bel_trans L4 hw5
          have hqa := hqa.bel hw5
          rw [HQC.out]
          clear hw5 hoo4 ho4 L4
          go_wp2_with fail
          refine (impl_open _ q _ hqa (by omega)).mono ?_
          rintro e w6 ⟨vq, rfl, hoq, hw6⟩
          rw [HQA.out] at hoq
          have L6 := bel_trans L5 hw6
          have hqa := hqa.bel hw6
          clear hw6 L5
          go_wp2_with fail
          refine (same_shells _ _ q _ hoq.at_ hqa).mono ?_
          rintro e w7 ⟨rfl, hw7⟩
          go_wp2_with fail
          go_ret
          exact ⟨rfl, bel_trans L6 hw7⟩

set_option maxRecDepth 100000 in
theorem lifted (os : Os) (started : os.Started) (H : Type) (enc : TypeId × Value → H) :
    ReturnsInHanded {} Try.checked os 9 .any (Rows.fnConfigOpenSpec.pre6 enc Try.prog Try.f9 Rows.fnConfigOpenRow.domain false) (Rows.fnConfigOpenSpec.post enc Try.prog Try.f9 false true false false) := by
  refine returnsInHanded_of_change (C := Try.checked) own started (by kernel_rfl) Try.func9
    (ChangeSpec.witness6 (enc := enc) (C := Try.checked) false ⟨#[], #[.slice none 0 0], []⟩ 8 (by kernel_rfl) (by kernel_rfl) (by kernel_rfl) (by kernel_rfl)) ?_
  intro W base args ds gs before hval0 hW hcnd _
  have hval : ∀ (j : Nat) t v, Try.f9.params[j]? = some t → args[j]? = some v → Value.okWide Try.prog W .any base t v := hval0
  have hW' := hW
  have hlt := hW.lt
  obtain ⟨p, q, hA0, hV, rfl, hfz, hnd⟩ := hW
  have hA : DataW.TrodAll enc Try.prog W 0 (fun _ => true) true Try.f9.params.toList args.toList ds p := hA0
  rw [Try.params9] at hA hval
  obtain ⟨v0, vs0, d0, ds0, p0, q0, hargs, rfl, rfl, h0, r0⟩ := trodAll_cons hA
  obtain ⟨rfl, rfl, rfl⟩ := trodAll_nil r0
  obtain rfl : args = #[v0] := by cases args; simp_all
  obtain ⟨rfl, rfl⟩ := trodVars_none hV
  clear hA0 hval0 hA hfz hnd
  obtain ⟨a0, n0, c0, rfl, hnc0, hcm0, hb0⟩ := open_bytes Try.underlying29 Try.underlying5 (by kernel_rfl) (hval 0 29 v0 rfl rfl) h0 (fun x hx => hlt x (by simp [hx]))
  exact law_close laidOut (by kernel_rfl) rfl Try.underlying4 rfl rfl hW' (walk a0 n0 c0 W hnc0 hcm0 hb0)

theorem over : Rows.fnConfigOpenRow.holds Try.pinned (OpenSpec.ofChange Rows.fnConfigOpenSpec) :=
  OpenClaim.holds_of_wide 9 Try.f9 rfl rfl rfl rfl rfl rfl rfl ⟨rfl, rfl, rfl, rfl, rfl⟩ rfl rfl rfl rfl rfl (by kernel_rfl) Try.func9 (by kernel_rfl)
    (of_decide_eq_true (by kernel_rfl)) (by unfold Func.isWrapper; first | (rw [if_pos (by decide +kernel)]; kernel_rfl) | (rw [if_neg (by decide +kernel)]; exact ⟨rfl, rfl⟩))
    (fun os started H enc _ => lifted os started H enc)

theorem proved : Rows.FnConfigOpenSaid := over
end Go.Proofs.Ytocknafdgeneoaa.fnConfigOpen

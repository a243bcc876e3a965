/-
  steal.One over deques of which none has anything: the records of its run. Conditions: none.
-/
import Derived.Test.YtcpiafgkmakdiaaSxYCtx
import Derived.Test.YtcpiafgkmakdiaaSxRF2s
set_option maxRecDepth 100000
set_option linter.unusedVariables false
namespace Go.Proofs.Ytcpiafgkmakdiaa
open Go.Proofs.Ytcpiafgkmakdiaa.SX Go.Proofs.Ytcpiafgkmakdiaa.SX.Short

noncomputable def snH : AH := ⟨[(606, .cells [(.int .i64 (.var 2))] 3), (605, .cells [(.int .i64 (.var 3))] 3), (604, .cells [F] 4), (603, .cells [(.int .i64 (.lit (.negSucc 0)))] 3), (602, .cells [(I 0)] 2), (601, .cells [(.slice (some ⟨(.dyn 1), (.lit (.ofNat 0))⟩) (.var 3) (.var 6))] 62), (600, .cells [(A 9 0)] 23)], 607, 607⟩
noncomputable def snT : TT := (N (A 9 0) (N (.int .i64 (.var 2)) (N (A 602 0) (N1 (.int .i64 (.var 2))) L) (N (A 601 0) (N1 (.slice (some ⟨(.dyn 1), (.lit (.ofNat 0))⟩) (.var 3) (.var 6))) (N1 (A 604 0)))) (N (.slice (some ⟨(.dyn 1), (.lit (.ofNat 0))⟩) (.var 3) (.var 6)) (N Z (N1 (.int .i64 (.var 3))) L) (N (A 600 0) L (N (A 603 0) L (N1 (.func (.func 61) [] [(A 605 0), (A 606 0)]))))))
noncomputable def snK : List Item := [.inBlock 0, .code (pc (bodyOf Try.f18) [1,0,1,1,1]), .inScope (pc (bodyOf Try.f18) [1,0])]
noncomputable def snLoop : Code := (pc (bodyOf Try.f18) [1,0,1,1,0,1,0])
noncomputable def snRF : Item := .code (pc (bodyOf Try.f18) [1,0,1,1,0,1,0])
noncomputable def snFr : AFrame := ⟨18, 36, (N (A 9 0) (N1 (.int .i64 (.var 2))) (N1 (.slice (some ⟨(.dyn 1), (.lit (.ofNat 0))⟩) (.var 3) (.var 6)))),
    [.code (pc (bodyOf Try.f18) [])],
    [], .run, .normal⟩
noncomputable def snR : AFrame := ⟨61, 33, (N (.opq 7777) (N1 (A 606 0)) (N1 (A 605 0))),
    [.code (pc (bodyOf Try.f61) [])],
    [], .run, .normal⟩
noncomputable def snF : ACfg := ⟨⟨61, 33, (N (.opq 7777) (N (A 606 0) (N F (N F L (N1 (.bool (.cmp .lss (.lit (.ofNat 1)) (.var 3))))) (N F L (N1 F))) (N (I 1) (N (.int .i64 (.var 2)) L (N1 (I 1))) (N (.int .i64 (.var 3)) L (N1 (.int .i64 (.var 2)))))) (N (A 605 0) (N (.int .i64 (.var 3)) (N F L (N1 (.int .i64 (.var 3)))) (N F L (N1 (.int .i64 (.var 3))))) (N Z (N F L (N1 F)) (N F L (N1 F))))),
    [.code (pc (bodyOf Try.f61) [1,1,0,0,0,1]), .code (pc (bodyOf Try.f61) [1,1,0,0,1]), .inLoop (pc (bodyOf Try.f61) [1,1,0,0]), .inBlock 0],
    [], .run, .normal⟩, [], snH⟩
noncomputable def snD : ACfg := ⟨⟨61, 33, (N (.opq 7777) (N (A 606 0) (N F (N F (N1 (.int .i64 (.op .rem .i64 (.op .add .i64 (.var 2) (.var 700)) (.var 3)))) (N1 (.bool (.cmp .lss (.var 701) (.var 3))))) (N F (N1 (.int .i64 (.var 2))) (N1 F))) (N (.int .i64 (.var 701)) (N (.int .i64 (.var 2)) (N1 (.int .i64 (.op .add .i64 (.var 2) (.var 700)))) (N1 (.int .i64 (.var 701)))) (N (.int .i64 (.var 3)) (N1 (.int .i64 (.var 701))) (N (.int .i64 (.var 2)) L (N1 F))))) (N (A 605 0) (N (.int .i64 (.var 3)) (N F (N1 (.int .i64 (.var 3))) (N1 (.int .i64 (.var 3)))) (N F (N1 (.opq 7777)) (N1 (.int .i64 (.var 3))))) (N Z (N F (N1 (.int .i64 (.var 700))) (N1 F)) (N F (N1 (.int .i64 (.var 700))) (N F L (N1 T)))))),
    [.code (pc (bodyOf Try.f61) [1,1,0,0,0,1]), .code (pc (bodyOf Try.f61) [1,1,0,0,1]), .inLoop (pc (bodyOf Try.f61) [1,1,0,0]), .inBlock 0],
    [], .run, .normal⟩, [], snH⟩
noncomputable def snKs : List Nat := [606, 605, 604, 603, 602, 601, 600]
-- range over t15 params #[16] fn 18 nt 36 iterator 61 caps [(A 605 0), (A 606 0)]
end Go.Proofs.Ytcpiafgkmakdiaa

/- A checkpoint of the machine's run: one call of function 27, its value and the memory that is needed behind it; no conditions. -/
import Derived.Test.YtpekifgpnbpnhaaGreatLa101
namespace Go.Proofs.YtpekifgpnbpnhaaGreat
open Go.Abs Go.RowKit
noncomputable def LaM102 : Memo := ⟨27,
  [(.slice (Pos.of 9904) 0 9 none 2)],
  ⟨(.node (.node (.node (.node (.node .leaf none (.node (.node (.node .leaf none (.node .leaf none (.node .leaf none (.node (.node .leaf (some (.cells (.node (.node .leaf (some (.str
    0 0)) .leaf) (some (.str 6 115858679819636)) (.node .leaf (some (.str 0 0)) .leaf)) 3 none)) .leaf) none .leaf)))) none .leaf) none .leaf)) none (.node (.node (.node .leaf none
    (.node .leaf none (.node (.node .leaf none (.node .leaf none (.node (.node .leaf none (.node .leaf (some (.cells (.node (.node (.node (.node (.node .leaf (some (.str 4
    1684369017)) .leaf) (some (.slice (Pos.of 12152) 0 1 none 3)) (.node .leaf (some .nilslice) .leaf)) (some (.str 5 444301538672)) (.node (.node .leaf (some (.slice (Pos.of 13584)
    0 1 none 3)) .leaf) (some .nilslice) .leaf)) (some (.slice (Pos.of 11436) 0 1 none 3)) (.node (.node (.node .leaf (some .nilslice) .leaf) (some (.str 8 8243121615520555877))
    .leaf) (some .nilslice) (.node (.node .leaf (some (.str 4 1718773093)) .leaf) (some (.slice (Pos.of 12868) 0 1 none 3)) .leaf))) (some (.str 4 1970496882)) (.node (.node (.node
    (.node .leaf (some (.slice (Pos.of 13226) 0 1 none 3)) .leaf) (some .nilslice) .leaf) (some (.slice (Pos.of 11794) 0 1 none 3)) (.node (.node .leaf (some .nilslice) .leaf) (some
    (.str 5 418430873463)) .leaf)) (some .nilslice) (.node (.node (.node .leaf (some (.str 5 422776761956)) .leaf) (some (.slice (Pos.of 12510) 0 1 none 3)) .leaf) (some (.str 6
    107079782723438)) (.node (.node .leaf (some (.slice (Pos.of 13942) 0 1 none 3)) .leaf) (some .nilslice) .leaf)))) 24 (some (Pos.of 13665)))) .leaf)) none .leaf))) none .leaf)))
    none (.node (.node (.node (.node .leaf none (.node .leaf none (.node .leaf none (.node .leaf none (.node .leaf (some (.cells (.node (.node .leaf (some (.str 0 0)) .leaf) (some
    (.str 5 452572766580)) (.node .leaf (some (.str 0 0)) .leaf)) 3 none)) .leaf))))) none .leaf) none .leaf) none .leaf)) none (.node (.node (.node .leaf none (.node (.node .leaf
    none (.node (.node .leaf none (.node (.node .leaf (some (.cells (.node (.node .leaf (some (.str 0 0)) .leaf) (some (.str 6 115858713306482)) (.node .leaf (some (.str 0 0))
    .leaf)) 3 none)) .leaf) none .leaf)) none .leaf)) none .leaf)) none .leaf) none (.node .leaf none (.node .leaf none (.node .leaf none (.node (.node .leaf (some (.cells (.node
    (.node .leaf (some (.str 0 0)) .leaf) (some (.str 6 115858713306482)) (.node .leaf (some (.str 0 0)) .leaf)) 3 none)) .leaf) none (.node (.node (.node .leaf (some (.cells (.node
    (.node .leaf (some (.str 0 0)) .leaf) (some (.str 5 452572766580)) (.node .leaf (some (.str 0 0)) .leaf)) 3 none)) .leaf) none .leaf) none .leaf)))))))) none (.node (.node (.node
    (.node .leaf none (.node (.node (.node .leaf none (.node .leaf none (.node .leaf none (.node (.node (.node .leaf (some (.cells (.node (.node (.node (.node (.node .leaf (some
    (.slice (Pos.of 16350) 0 2 none 3)) .leaf) (some .nilslice) .leaf) (some .nilslice) (.node .leaf (some (.slice (Pos.of 14023) 0 8 none 3)) .leaf)) (some .nilslice) (.node (.node
    (.node .leaf (some (.slice (Pos.of 19953) 0 5 none 3)) .leaf) (some (.slice (Pos.of 10984) 0 1 none 3)) .leaf) (some .nilslice) (.node .leaf (some (.slice (Pos.of 15459) 0 3 none
    3)) .leaf))) (some (.str 6 115858713306482)) (.node (.node (.node (.node .leaf (some (.str 5 452572898673)) .leaf) (some (.str 7 29659770460796272)) .leaf) (some (.str 10
    497609164509930675397477)) (.node .leaf (some (.str 6 115858679819636)) .leaf)) (some (.str 8 7592894576552669038)) (.node (.node .leaf (some (.str 8 7592915475762343540)) .leaf)
    (some (.str 5 452572766580)) (.node .leaf (some (.str 7 29659748936019556)) .leaf)))) 18 (some (Pos.of 16432)))) .leaf) none .leaf) none .leaf)))) none (.node (.node .leaf none
    (.node .leaf none (.node (.node (.node .leaf (some (.cells (.node (.node (.node (.node (.node .leaf (some (.int .i64 (.ofNat 2))) .leaf) (some (.str 4 1718773093)) .leaf) (some
    (.int .i64 (.ofNat 1))) (.node .leaf (some (.str 0 0)) .leaf)) (some (.str 5 418430873463)) (.node (.node (.node .leaf (some (.str 3 7825519)) .leaf) (some (.int .i64 (.ofNat
    3))) .leaf) (some (.str 0 0)) (.node .leaf (some (.str 0 0)) .leaf))) (some (.int .i64 (.ofNat 2))) (.node (.node (.node (.node .leaf (some (.str 4 1684369017)) .leaf) (some
    (.str 0 0)) .leaf) (some (.str 6 131294808271214)) (.node .leaf (some (.int .i64 (.ofNat 5))) .leaf)) (some (.str 3 7825519)) (.node (.node .leaf (some (.str 0 0)) .leaf) (some
    (.int .i64 (.ofNat 1))) (.node .leaf (some (.str 0 0)) .leaf)))) 18 (some (Pos.of 19832)))) .leaf) none .leaf) none .leaf))) none .leaf)) none (.node (.node (.node (.node .leaf
    (some (.cells (.node (.node .leaf (some (.str 0 0)) .leaf) (some (.str 8 7592894576552669038)) (.node .leaf (some (.str 0 0)) .leaf)) 3 none)) .leaf) none .leaf) none .leaf) none
    (.node .leaf none (.node .leaf none (.node (.node .leaf (some (.cells (.node (.node .leaf (some (.slice (Pos.of 6002) 0 1 none 3)) .leaf) (some (.str 3 6382452)) (.node .leaf
    (some .nilslice) .leaf)) 3 (some (Pos.of 6441)))) .leaf) none .leaf)))))) none (.node .leaf none (.node (.node (.node (.node .leaf none (.node .leaf none (.node .leaf none (.node
    .leaf (some (.cells (.node (.node (.node (.node .leaf (some (.slice (Pos.of 15378) 0 1 none 3)) .leaf) (some (.str 3 6382452)) .leaf) (some (.slice (Pos.of 14662) 0 2 none 3))
    (.node .leaf (some .nilslice) .leaf)) (some (.str 3 7825519)) (.node (.node (.node .leaf (some .nilslice) .leaf) (some (.slice (Pos.of 15020) 0 1 none 3)) .leaf) (some .nilslice)
    (.node .leaf (some (.str 3 7497075)) .leaf))) 9 (some (Pos.of 15101)))) .leaf)))) none .leaf) none .leaf) none .leaf))) none (.node (.node .leaf none (.node (.node (.node (.node
    .leaf none (.node .leaf none (.node .leaf (some (.cells (.node (.node .leaf (some (.str 0 0)) .leaf) (some (.str 6 115858679819636)) (.node .leaf (some (.str 0 0)) .leaf)) 3
    none)) .leaf))) none .leaf) none (.node .leaf none (.node .leaf none (.node .leaf none (.node .leaf (some (.cells (.node (.node .leaf (some (.str 0 0)) .leaf) (some (.str 8
    7592915475762343540)) (.node .leaf (some (.str 4 1718773093)) .leaf)) 3 none)) .leaf))))) none .leaf)) none (.node (.node (.node (.node (.node .leaf (some (.cells (.node (.node
    .leaf (some (.slice (Pos.of 994) 0 1 none 3)) .leaf) (some (.str 6 120282394289522)) (.node .leaf (some .nilslice) .leaf)) 3 none)) .leaf) none .leaf) none .leaf) none .leaf)
    none .leaf))) none (.node (.node (.node (.node .leaf none (.node (.node (.node (.node .leaf none (.node .leaf none (.node .leaf (some (.cells (.node (.node .leaf (some (.str 0
    0)) .leaf) (some (.str 6 115858713306482)) (.node .leaf (some (.str 0 0)) .leaf)) 3 (some (Pos.of 14662)))) .leaf))) none .leaf) none .leaf) none .leaf)) none .leaf) none .leaf)
    none (.node (.node .leaf none (.node (.node (.node .leaf none (.node .leaf none (.node .leaf (some (.cells (.node (.node .leaf (some (.str 0 0)) .leaf) (some (.str 7
    29659748936019556)) (.node .leaf (some (.str 0 0)) .leaf)) 3 none)) .leaf))) none .leaf) none .leaf)) none (.node .leaf none (.node (.node .leaf none (.node (.node (.node .leaf
    none (.node .leaf (some (.cells (.node (.node (.node (.node (.node .leaf (some (.slice (Pos.of 6441) 0 2 none 3)) .leaf) (some .nilslice) .leaf) (some .nilslice) (.node .leaf
    (some (.slice (Pos.of 4114) 0 8 none 3)) .leaf)) (some .nilslice) (.node (.node .leaf (some (.slice (Pos.of 1075) 0 1 none 3)) .leaf) (some .nilslice) (.node .leaf (some (.slice
    (Pos.of 5550) 0 3 none 3)) .leaf))) (some (.str 6 115858713306482)) (.node (.node (.node .leaf (some (.str 7 29659770460796272)) .leaf) (some (.str 10 497609164509930675397477))
    (.node .leaf (some (.str 6 115858679819636)) .leaf)) (some (.str 8 7592894576552669038)) (.node (.node .leaf (some (.str 8 7592915475762343540)) .leaf) (some (.str 5
    452572766580)) (.node .leaf (some (.str 7 29659748936019556)) .leaf)))) 16 (some (Pos.of 9904)))) .leaf)) none .leaf) none .leaf)) none .leaf)))))) none (.node (.node (.node
    (.node (.node .leaf none (.node .leaf none (.node .leaf none (.node .leaf none (.node .leaf none (.node .leaf (some (.cells (.node (.node .leaf (some (.str 0 0)) .leaf) (some
    (.str 6 115858713306482)) (.node .leaf (some (.str 0 0)) .leaf)) 3 none)) .leaf)))))) none (.node .leaf none (.node (.node .leaf none (.node (.node .leaf none (.node (.node .leaf
    none (.node .leaf (some (.cells (.node (.node (.node (.node (.node .leaf (some (.str 4 1684369017)) .leaf) (some (.slice (Pos.of 12152) 0 1 none 3)) .leaf) (some (.str 5
    444301538672)) (.node (.node .leaf (some (.slice (Pos.of 13584) 0 1 none 3)) .leaf) (some .nilslice) .leaf)) (some (.slice (Pos.of 11436) 0 1 none 3)) (.node (.node (.node .leaf
    (some .nilslice) .leaf) (some (.str 8 8243121615520555877)) .leaf) (some .nilslice) (.node .leaf (some (.slice (Pos.of 12868) 0 1 none 3)) .leaf))) (some (.str 4 1970496882))
    (.node (.node (.node (.node .leaf (some (.slice (Pos.of 13226) 0 1 none 3)) .leaf) (some .nilslice) .leaf) (some (.slice (Pos.of 11794) 0 1 none 3)) (.node (.node .leaf (some
    .nilslice) .leaf) (some (.str 5 418430873463)) .leaf)) (some .nilslice) (.node (.node (.node .leaf (some (.str 5 422776761956)) .leaf) (some (.slice (Pos.of 12510) 0 1 none 3))
    .leaf) (some (.str 6 107079782723438)) (.node .leaf (some .nilslice) .leaf)))) 21 (some (Pos.of 14023)))) .leaf)) none .leaf)) none .leaf)) none .leaf))) none (.node (.node
    (.node .leaf none (.node (.node .leaf none (.node (.node (.node .leaf (some (.cells (.node (.node (.node .leaf (some (.str 7 29659770460796272)) .leaf) (some (.str 0 0)) (.node
    .leaf (some (.str 6 120282394289522)) .leaf)) (some (.str 6 115858713306482)) (.node (.node .leaf (some (.str 0 0)) .leaf) (some (.str 0 0)) .leaf)) 6 (some (Pos.of 4566))))
    .leaf) none .leaf) none .leaf)) none .leaf)) none .leaf) none (.node .leaf none (.node .leaf none (.node .leaf none (.node (.node .leaf none (.node .leaf none (.node (.node
    (.node .leaf (some (.cells (.node (.node (.node (.node .leaf (some (.slice (Pos.of 17518) 0 1 none 3)) .leaf) (some (.str 4 1684369017)) (.node .leaf (some .nilslice) .leaf))
    (some (.slice (Pos.of 16802) 0 1 none 3)) (.node (.node .leaf (some (.str 4 1718773093)) .leaf) (some .nilslice) (.node .leaf (some .nilslice) .leaf))) (some (.str 5
    418430873463)) (.node (.node (.node .leaf (some .nilslice) .leaf) (some (.slice (Pos.of 17160) 0 1 none 3)) (.node .leaf (some (.str 3 6513006)) .leaf)) (some .nilslice) (.node
    (.node .leaf (some (.slice (Pos.of 17928) 0 1 none 3)) .leaf) (some (.str 6 131294808271214)) (.node .leaf (some (.slice (Pos.of 19832) 0 7 none 3)) .leaf)))) 15 (some (Pos.of
    18009)))) .leaf) none .leaf) none .leaf))) none .leaf)))))) none (.node (.node .leaf none (.node (.node (.node (.node .leaf none (.node (.node .leaf (some (.cells (.node (.node
    .leaf (some (.str 0 0)) .leaf) (some (.str 10 497609164509930675397477)) (.node .leaf (some (.str 0 0)) .leaf)) 3 none)) .leaf) none .leaf)) none (.node (.node (.node .leaf none
    (.node .leaf (some (.cells (.node (.node (.node .leaf (some (.str 3 7497075)) .leaf) (some (.slice (Pos.of 6002) 0 1 none 3)) (.node .leaf (some .nilslice) .leaf)) (some (.str 3
    6382452)) (.node (.node .leaf (some (.slice (Pos.of 6360) 0 1 none 3)) .leaf) (some .nilslice) .leaf)) 6 (some (Pos.of 6083)))) .leaf)) none .leaf) none .leaf)) none .leaf) none
    .leaf)) none (.node (.node .leaf none (.node (.node (.node .leaf none (.node .leaf none (.node (.node (.node (.node .leaf (some (.cells (.node (.node (.node (.node .leaf (some
    (.slice (Pos.of 17518) 0 1 none 3)) .leaf) (some (.str 4 1684369017)) (.node .leaf (some .nilslice) .leaf)) (some (.slice (Pos.of 16802) 0 1 none 3)) (.node (.node .leaf (some
    (.str 4 1718773093)) .leaf) (some .nilslice) .leaf)) (some (.str 5 418430873463)) (.node (.node (.node .leaf (some .nilslice) .leaf) (some (.slice (Pos.of 17160) 0 1 none 3))
    .leaf) (some .nilslice) (.node (.node .leaf (some (.slice (Pos.of 17928) 0 1 none 3)) .leaf) (some (.str 6 131294808271214)) .leaf))) 12 (some (Pos.of 19953)))) .leaf) none
    .leaf) none .leaf) none .leaf))) none .leaf) none .leaf)) none (.node (.node .leaf none (.node .leaf none (.node (.node .leaf none (.node .leaf none (.node .leaf (some (.cells
    (.node (.node .leaf (some (.str 0 0)) .leaf) (some (.str 6 115858713306482)) (.node .leaf (some (.str 0 0)) .leaf)) 3 none)) .leaf))) none .leaf))) none .leaf)))) none (.node
    (.node (.node .leaf none (.node .leaf none (.node .leaf none (.node .leaf none (.node (.node .leaf none (.node (.node (.node .leaf (some (.cells (.node (.node (.node (.node
    (.node .leaf (some (.int .i64 (.ofNat 2))) .leaf) (some (.str 4 1718773093)) .leaf) (some (.int .i64 (.ofNat 1))) (.node (.node .leaf (some (.str 0 0)) .leaf) (some (.str 0 0))
    .leaf)) (some (.str 5 418430873463)) (.node (.node (.node .leaf (some (.str 3 7825519)) .leaf) (some (.int .i64 (.ofNat 3))) .leaf) (some (.str 0 0)) (.node .leaf (some (.str 0
    0)) .leaf))) (some (.int .i64 (.ofNat 2))) (.node (.node (.node (.node .leaf (some (.str 4 1684369017)) .leaf) (some (.str 0 0)) .leaf) (some (.str 6 131294808271214)) (.node
    (.node .leaf (some (.str 0 0)) .leaf) (some (.int .i64 (.ofNat 5))) .leaf)) (some (.str 3 7825519)) (.node (.node (.node .leaf (some (.int .i64 (.ofNat 4))) .leaf) (some (.str 0
    0)) .leaf) (some (.int .i64 (.ofNat 1))) (.node .leaf (some (.str 0 0)) .leaf)))) 21 (some (Pos.of 9648)))) .leaf) none .leaf) none .leaf)) none .leaf))))) none (.node .leaf none
    (.node .leaf none (.node .leaf none (.node (.node (.node .leaf none (.node .leaf (some (.cells (.node (.node .leaf (some (.str 0 0)) .leaf) (some (.str 6 115858679819636)) (.node
    .leaf (some (.str 0 0)) .leaf)) 3 none)) .leaf)) none .leaf) none .leaf))))) none (.node (.node (.node (.node .leaf none (.node .leaf none (.node .leaf none (.node .leaf none
    (.node .leaf none (.node .leaf none (.node .leaf (some (.cells (.node (.node .leaf (some (.str 0 0)) .leaf) (some (.str 5 452572766580)) (.node .leaf (some (.str 0 0)) .leaf)) 3
    none)) .leaf))))))) none .leaf) none (.node .leaf none (.node .leaf none (.node (.node .leaf none (.node (.node .leaf none (.node .leaf (some (.cells (.node (.node .leaf (some
    (.str 0 0)) .leaf) (some (.str 6 115858679819636)) (.node .leaf (some (.str 0 0)) .leaf)) 3 none)) .leaf)) none .leaf)) none .leaf)))) none (.node (.node .leaf none (.node (.node
    .leaf none (.node (.node .leaf none (.node (.node .leaf (some (.cells (.node (.node .leaf (some (.str 0 0)) .leaf) (some (.str 5 452572766580)) (.node .leaf (some (.str 0 0))
    .leaf)) 3 none)) .leaf) none .leaf)) none (.node .leaf (some (.cells (.node (.node .leaf (some (.str 0 0)) .leaf) (some (.str 7 29659770460796272)) (.node .leaf (some (.str 0 0))
    .leaf)) 3 none)) .leaf))) none .leaf)) none (.node .leaf none (.node .leaf none (.node (.node .leaf none (.node (.node .leaf none (.node .leaf none (.node .leaf (some (.cells
    (.node (.node (.node .leaf (some (.str 3 6382452)) .leaf) (some (.slice (Pos.of 14662) 0 2 none 3)) (.node .leaf (some .nilslice) .leaf)) (some (.str 3 7825519)) (.node (.node
    .leaf (some (.slice (Pos.of 15020) 0 1 none 3)) .leaf) (some .nilslice) .leaf)) 6 (some (Pos.of 15459)))) .leaf))) none .leaf)) none .leaf)))))))) none (.node (.node (.node
    (.node .leaf none (.node (.node (.node (.node .leaf none (.node (.node .leaf none (.node (.node .leaf none (.node .leaf (some (.cells (.node (.node .leaf (some (.str 0 0)) .leaf)
    (some (.str 7 29659748936019556)) (.node .leaf (some (.str 0 0)) .leaf)) 3 none)) .leaf)) none .leaf)) none .leaf)) none .leaf) none .leaf) none (.node (.node (.node (.node
    (.node (.node (.node (.node (.node .leaf (some (.cells (.node (.node (.node (.node (.node .leaf (some (.slice (Pos.of 16350) 0 2 none 3)) .leaf) (some .nilslice) .leaf) (some
    .nilslice) (.node .leaf (some (.slice (Pos.of 14023) 0 8 none 3)) .leaf)) (some .nilslice) (.node (.node .leaf (some (.slice (Pos.of 10984) 0 1 none 3)) .leaf) (some .nilslice)
    (.node .leaf (some (.slice (Pos.of 15459) 0 3 none 3)) .leaf))) (some (.str 6 115858713306482)) (.node (.node (.node .leaf (some (.str 7 29659770460796272)) .leaf) (some (.str 10
    497609164509930675397477)) (.node .leaf (some (.str 6 115858679819636)) .leaf)) (some (.str 8 7592894576552669038)) (.node (.node .leaf (some (.str 8 7592915475762343540)) .leaf)
    (some (.str 5 452572766580)) (.node .leaf (some (.str 7 29659748936019556)) .leaf)))) 16 (some (Pos.of 20035)))) .leaf) none .leaf) none .leaf) none .leaf) none .leaf) none
    .leaf) none .leaf) none (.node (.node .leaf none (.node .leaf none (.node (.node (.node .leaf (some (.cells (.node (.node (.node (.node (.node .leaf (some (.slice (Pos.of 6441) 0
    2 none 3)) .leaf) (some .nilslice) .leaf) (some .nilslice) (.node .leaf (some (.slice (Pos.of 4114) 0 8 none 3)) .leaf)) (some .nilslice) (.node (.node (.node .leaf (some (.slice
    (Pos.of 9822) 0 5 none 3)) .leaf) (some (.slice (Pos.of 1075) 0 1 none 3)) .leaf) (some .nilslice) (.node .leaf (some (.slice (Pos.of 5550) 0 3 none 3)) .leaf))) (some (.str 6
    115858713306482)) (.node (.node (.node (.node .leaf (some (.str 5 452572898673)) .leaf) (some (.str 7 29659770460796272)) .leaf) (some (.str 10 497609164509930675397477)) (.node
    .leaf (some (.str 6 115858679819636)) .leaf)) (some (.str 8 7592894576552669038)) (.node (.node .leaf (some (.str 8 7592915475762343540)) .leaf) (some (.str 5 452572766580))
    (.node .leaf (some (.str 7 29659748936019556)) .leaf)))) 18 (some (Pos.of 6523)))) .leaf) none .leaf) none .leaf))) none (.node (.node .leaf none (.node (.node (.node .leaf (some
    (.cells (.node (.node (.node (.node (.node .leaf (some (.int .i64 (.ofNat 2))) .leaf) (some (.str 4 1718773093)) .leaf) (some (.int .i64 (.ofNat 1))) (.node .leaf (some (.str 0
    0)) .leaf)) (some (.str 5 418430873463)) (.node (.node (.node .leaf (some (.str 3 7825519)) .leaf) (some (.int .i64 (.ofNat 3))) .leaf) (some (.str 0 0)) (.node .leaf (some (.str
    0 0)) .leaf))) (some (.int .i64 (.ofNat 2))) (.node (.node (.node (.node .leaf (some (.str 4 1684369017)) .leaf) (some (.str 0 0)) .leaf) (some (.str 6 131294808271214)) (.node
    .leaf (some (.int .i64 (.ofNat 5))) .leaf)) (some (.str 3 7825519)) (.node (.node .leaf (some (.str 0 0)) .leaf) (some (.int .i64 (.ofNat 1))) (.node .leaf (some (.str 0 0))
    .leaf)))) 18 (some (Pos.of 9701)))) .leaf) none .leaf) none .leaf)) none .leaf))) none .leaf))) none (.node (.node (.node (.node (.node (.node .leaf none (.node .leaf none (.node
    (.node (.node (.node .leaf (some (.cells (.node (.node .leaf (some (.str 0 0)) .leaf) (some (.str 8 7592915475762343540)) (.node .leaf (some (.str 4 1718773093)) .leaf)) 3 none))
    .leaf) none .leaf) none .leaf) none .leaf))) none (.node .leaf none (.node (.node (.node (.node (.node .leaf (some (.cells (.node (.node .leaf (some (.str 0 0)) .leaf) (some
    (.str 6 115858679819636)) (.node .leaf (some (.str 0 0)) .leaf)) 3 none)) .leaf) none .leaf) none .leaf) none .leaf) none .leaf))) none .leaf) none (.node (.node (.node (.node
    .leaf none (.node (.node .leaf (some (.cells (.node (.node (.node .leaf (some (.str 3 6382452)) .leaf) (some (.slice (Pos.of 4753) 0 2 none 3)) (.node .leaf (some .nilslice)
    .leaf)) (some (.str 3 7825519)) (.node (.node .leaf (some (.slice (Pos.of 5111) 0 1 none 3)) .leaf) (some .nilslice) .leaf)) 6 (some (Pos.of 5550)))) .leaf) none .leaf)) none
    .leaf) none .leaf) none .leaf)) none (.node .leaf none (.node .leaf none (.node (.node .leaf none (.node (.node .leaf none (.node (.node .leaf (some (.cells (.node (.node .leaf
    (some (.slice (Pos.of 10903) 0 1 none 3)) .leaf) (some (.str 6 120282394289522)) (.node .leaf (some .nilslice) .leaf)) 3 none)) .leaf) none .leaf)) none .leaf)) none .leaf))))
    none (.node (.node .leaf none (.node .leaf none (.node (.node (.node (.node .leaf none (.node .leaf (some (.cells (.node (.node .leaf (some (.str 0 0)) .leaf) (some (.str 5
    452572766580)) (.node .leaf (some (.str 0 0)) .leaf)) 3 none)) .leaf)) none .leaf) none .leaf) none .leaf))) none (.node .leaf none (.node (.node (.node .leaf none (.node .leaf
    none (.node .leaf none (.node .leaf none (.node .leaf (some (.cells (.node (.node .leaf (some (.slice (Pos.of 15911) 0 1 none 3)) .leaf) (some (.str 3 6382452)) (.node .leaf
    (some .nilslice) .leaf)) 3 (some (Pos.of 16350)))) .leaf))))) none (.node (.node .leaf none (.node .leaf none (.node (.node (.node .leaf (some (.cells (.node (.node (.node (.node
    (.node .leaf (some (.int .i64 (.ofNat 2))) .leaf) (some (.str 4 1718773093)) .leaf) (some (.int .i64 (.ofNat 1))) (.node (.node .leaf (some (.str 0 0)) .leaf) (some (.str 0 0))
    .leaf)) (some (.str 5 418430873463)) (.node (.node (.node .leaf (some (.str 3 7825519)) .leaf) (some (.int .i64 (.ofNat 3))) .leaf) (some (.str 0 0)) (.node .leaf (some (.str 0
    0)) .leaf))) (some (.int .i64 (.ofNat 2))) (.node (.node (.node (.node .leaf (some (.str 4 1684369017)) .leaf) (some (.str 0 0)) .leaf) (some (.str 6 131294808271214)) (.node
    (.node .leaf (some (.str 0 0)) .leaf) (some (.int .i64 (.ofNat 5))) .leaf)) (some (.str 3 7825519)) (.node (.node (.node .leaf (some (.int .i64 (.ofNat 4))) .leaf) (some (.str 0
    0)) .leaf) (some (.int .i64 (.ofNat 1))) (.node .leaf (some (.str 0 0)) .leaf)))) 21 (some (Pos.of 19779)))) .leaf) none .leaf) none .leaf))) none (.node .leaf none (.node .leaf
    none (.node (.node .leaf (some (.cells (.node (.node .leaf (some (.str 0 0)) .leaf) (some (.str 8 7592894576552669038)) (.node .leaf (some (.str 0 0)) .leaf)) 3 none)) .leaf)
    none .leaf))))) none .leaf))))) none (.node (.node (.node (.node .leaf none (.node (.node (.node .leaf none (.node (.node (.node .leaf none (.node .leaf (some (.cells (.node
    (.node .leaf (some (.str 0 0)) .leaf) (some (.str 6 115858679819636)) (.node .leaf (some (.str 0 0)) .leaf)) 3 none)) .leaf)) none .leaf) none .leaf)) none .leaf) none .leaf))
    none (.node (.node .leaf none (.node .leaf none (.node .leaf none (.node .leaf none (.node .leaf none (.node .leaf (some (.cells (.node (.node (.node (.node .leaf (some (.slice
    (Pos.of 7609) 0 1 none 3)) .leaf) (some (.str 4 1684369017)) (.node .leaf (some .nilslice) .leaf)) (some (.slice (Pos.of 6893) 0 1 none 3)) (.node (.node .leaf (some (.str 4
    1718773093)) .leaf) (some .nilslice) .leaf)) (some (.str 5 418430873463)) (.node (.node (.node .leaf (some .nilslice) .leaf) (some (.slice (Pos.of 7251) 0 1 none 3)) .leaf) (some
    .nilslice) (.node (.node .leaf (some (.slice (Pos.of 8019) 0 1 none 3)) .leaf) (some (.str 6 131294808271214)) .leaf))) 12 (some (Pos.of 9822)))) .leaf)))))) none .leaf)) none
    .leaf) none (.node (.node .leaf none (.node (.node .leaf none (.node (.node (.node .leaf none (.node .leaf none (.node (.node .leaf (some (.cells (.node (.node .leaf (some (.str
    0 0)) .leaf) (some (.str 6 115858713306482)) (.node .leaf (some (.str 0 0)) .leaf)) 3 none)) .leaf) none .leaf))) none (.node (.node .leaf none (.node .leaf none (.node .leaf
    (some (.cells (.node (.node .leaf (some (.str 0 0)) .leaf) (some (.str 5 452572766580)) (.node .leaf (some (.str 0 0)) .leaf)) 3 none)) .leaf))) none (.node .leaf (some (.cells
    (.node (.node (.node (.node (.node .leaf (some (.str 4 1684369017)) .leaf) (some (.slice (Pos.of 2243) 0 1 none 3)) .leaf) (some (.str 5 444301538672)) (.node (.node .leaf (some
    (.slice (Pos.of 3675) 0 1 none 3)) .leaf) (some .nilslice) .leaf)) (some (.slice (Pos.of 1527) 0 1 none 3)) (.node (.node (.node .leaf (some .nilslice) .leaf) (some (.str 8
    8243121615520555877)) .leaf) (some .nilslice) (.node .leaf (some (.slice (Pos.of 2959) 0 1 none 3)) .leaf))) (some (.str 4 1970496882)) (.node (.node (.node (.node .leaf (some
    (.slice (Pos.of 3317) 0 1 none 3)) .leaf) (some .nilslice) .leaf) (some (.slice (Pos.of 1885) 0 1 none 3)) (.node (.node .leaf (some .nilslice) .leaf) (some (.str 5
    418430873463)) .leaf)) (some .nilslice) (.node (.node (.node .leaf (some (.str 5 422776761956)) .leaf) (some (.slice (Pos.of 2601) 0 1 none 3)) .leaf) (some (.str 6
    107079782723438)) (.node .leaf (some .nilslice) .leaf)))) 21 (some (Pos.of 4114)))) .leaf))) none .leaf)) none .leaf)) none .leaf))) none (.node (.node (.node (.node .leaf none
    (.node (.node .leaf none (.node .leaf none (.node (.node (.node (.node (.node (.node .leaf (some (.cells (.node (.node .leaf (some (.str 0 0)) .leaf) (some (.str 6
    115858679819636)) (.node .leaf (some (.str 0 0)) .leaf)) 3 none)) .leaf) none .leaf) none .leaf) none .leaf) none .leaf) none .leaf))) none (.node .leaf none (.node .leaf none
    (.node .leaf (some (.cells (.node (.node .leaf (some (.str 0 0)) .leaf) (some (.str 6 115858713306482)) (.node .leaf (some (.str 0 0)) .leaf)) 3 none)) .leaf))))) none (.node
    (.node (.node (.node (.node (.node (.node (.node .leaf (some (.cells (.node (.node (.node (.node (.node .leaf (some (.str 4 1684369017)) .leaf) (some (.slice (Pos.of 2243) 0 1
    none 3)) (.node .leaf (some .nilslice) .leaf)) (some (.str 5 444301538672)) (.node (.node .leaf (some (.slice (Pos.of 3675) 0 1 none 3)) .leaf) (some .nilslice) .leaf)) (some
    (.slice (Pos.of 1527) 0 1 none 3)) (.node (.node (.node .leaf (some .nilslice) .leaf) (some (.str 8 8243121615520555877)) .leaf) (some .nilslice) (.node (.node .leaf (some (.str
    4 1718773093)) .leaf) (some (.slice (Pos.of 2959) 0 1 none 3)) .leaf))) (some (.str 4 1970496882)) (.node (.node (.node (.node .leaf (some (.slice (Pos.of 3317) 0 1 none 3))
    .leaf) (some .nilslice) .leaf) (some (.slice (Pos.of 1885) 0 1 none 3)) (.node (.node .leaf (some .nilslice) .leaf) (some (.str 5 418430873463)) .leaf)) (some .nilslice) (.node
    (.node (.node .leaf (some (.str 5 422776761956)) .leaf) (some (.slice (Pos.of 2601) 0 1 none 3)) .leaf) (some (.str 6 107079782723438)) (.node (.node .leaf (some (.slice (Pos.of
    4033) 0 1 none 3)) .leaf) (some .nilslice) .leaf)))) 24 (some (Pos.of 3756)))) .leaf) none .leaf) none (.node .leaf none (.node .leaf none (.node .leaf (some (.cells (.node
    (.node .leaf (some (.str 0 0)) .leaf) (some (.str 5 452572766580)) (.node .leaf (some (.str 0 0)) .leaf)) 3 none)) .leaf)))) none (.node .leaf none (.node .leaf none (.node
    (.node .leaf (some (.cells (.node (.node .leaf (some (.str 0 0)) .leaf) (some (.str 7 29659770460796272)) (.node .leaf (some (.str 0 0)) .leaf)) 3 none)) .leaf) none .leaf))))
    none .leaf) none .leaf) none .leaf) none (.node .leaf none (.node (.node .leaf none (.node .leaf none (.node .leaf none (.node (.node .leaf (some (.cells (.node (.node .leaf
    (some (.str 0 0)) .leaf) (some (.str 5 452572766580)) (.node .leaf (some (.str 0 0)) .leaf)) 3 none)) .leaf) none .leaf)))) none .leaf)))) none (.node (.node .leaf none (.node
    (.node .leaf none (.node .leaf none (.node .leaf none (.node (.node (.node .leaf none (.node .leaf (some (.cells (.node (.node .leaf (some (.str 0 0)) .leaf) (some (.str 6
    115858679819636)) (.node .leaf (some (.str 0 0)) .leaf)) 3 none)) .leaf)) none .leaf) none .leaf)))) none .leaf)) none .leaf)) none (.node (.node (.node (.node .leaf none (.node
    (.node .leaf none (.node (.node (.node .leaf none (.node .leaf none (.node .leaf (some (.cells (.node (.node (.node .leaf (some (.str 7 29659770460796272)) .leaf) (some (.str 0
    0)) (.node .leaf (some (.str 6 120282394289522)) .leaf)) (some (.str 6 115858713306482)) (.node (.node .leaf (some (.str 0 0)) .leaf) (some (.str 0 0)) .leaf)) 6 (some (Pos.of
    14475)))) .leaf))) none .leaf) none .leaf)) none .leaf)) none .leaf) none (.node (.node .leaf none (.node .leaf none (.node .leaf none (.node (.node (.node (.node .leaf (some
    (.cells (.node (.node .leaf (some (.str 0 0)) .leaf) (some (.str 6 115858713306482)) (.node .leaf (some (.str 0 0)) .leaf)) 3 (some (Pos.of 4753)))) .leaf) none .leaf) none
    .leaf) none .leaf)))) none (.node .leaf none (.node (.node (.node .leaf none (.node .leaf none (.node (.node .leaf none (.node .leaf (some (.cells (.node (.node .leaf (some (.str
    0 0)) .leaf) (some (.str 6 115858713306482)) (.node .leaf (some (.str 0 0)) .leaf)) 3 none)) .leaf)) none .leaf))) none .leaf) none .leaf)))) none (.node (.node .leaf none (.node
    (.node .leaf none (.node .leaf none (.node (.node .leaf none (.node (.node .leaf (some (.cells (.node (.node (.node (.node .leaf (some (.slice (Pos.of 5469) 0 1 none 3)) .leaf)
    (some (.str 3 6382452)) .leaf) (some (.slice (Pos.of 4753) 0 2 none 3)) (.node .leaf (some .nilslice) .leaf)) (some (.str 3 7825519)) (.node (.node (.node .leaf (some .nilslice)
    .leaf) (some (.slice (Pos.of 5111) 0 1 none 3)) .leaf) (some .nilslice) (.node .leaf (some (.str 3 7497075)) .leaf))) 9 (some (Pos.of 5192)))) .leaf) none .leaf)) none .leaf)))
    none (.node (.node (.node (.node .leaf none (.node (.node (.node (.node .leaf (some (.cells (.node (.node .leaf (some (.str 0 0)) .leaf) (some (.str 6 115858713306482)) (.node
    .leaf (some (.str 0 0)) .leaf)) 3 none)) .leaf) none .leaf) none .leaf) none .leaf)) none .leaf) none .leaf) none .leaf))) none (.node (.node .leaf none (.node (.node (.node
    .leaf none (.node .leaf none (.node (.node (.node .leaf (some (.cells (.node (.node (.node (.node .leaf (some (.slice (Pos.of 7609) 0 1 none 3)) .leaf) (some (.str 4 1684369017))
    (.node .leaf (some .nilslice) .leaf)) (some (.slice (Pos.of 6893) 0 1 none 3)) (.node (.node .leaf (some (.str 4 1718773093)) .leaf) (some .nilslice) (.node .leaf (some
    .nilslice) .leaf))) (some (.str 5 418430873463)) (.node (.node (.node .leaf (some .nilslice) .leaf) (some (.slice (Pos.of 7251) 0 1 none 3)) (.node .leaf (some (.str 3 6513006))
    .leaf)) (some .nilslice) (.node (.node .leaf (some (.slice (Pos.of 8019) 0 1 none 3)) .leaf) (some (.str 6 131294808271214)) (.node .leaf (some (.slice (Pos.of 9701) 0 7 none 3))
    .leaf)))) 15 (some (Pos.of 8100)))) .leaf) none .leaf) none .leaf))) none .leaf) none (.node (.node (.node (.node (.node .leaf none (.node .leaf (some (.cells (.node (.node .leaf
    (some (.str 0 0)) .leaf) (some (.str 10 497609164509930675397477)) (.node .leaf (some (.str 0 0)) .leaf)) 3 none)) .leaf)) none .leaf) none .leaf) none .leaf) none (.node .leaf
    none (.node .leaf none (.node .leaf none (.node .leaf none (.node .leaf (some (.cells (.node (.node (.node .leaf (some (.str 3 7497075)) .leaf) (some (.slice (Pos.of 15911) 0 1
    none 3)) (.node .leaf (some .nilslice) .leaf)) (some (.str 3 6382452)) (.node (.node .leaf (some (.slice (Pos.of 16269) 0 1 none 3)) .leaf) (some .nilslice) .leaf)) 6 (some
    (Pos.of 15992)))) .leaf)))))))) none .leaf)))))), Pos.of 20036⟩,
  (.int .i64 (.ofNat 0)),
  ⟨(.node (.node (.node (.node (.node .leaf none (.node (.node (.node .leaf none (.node .leaf none (.node .leaf none (.node (.node .leaf (some (.cells (.node (.node .leaf (some (.str
    0 0)) .leaf) (some (.str 6 115858679819636)) (.node .leaf (some (.str 0 0)) .leaf)) 3 none)) .leaf) none .leaf)))) none .leaf) none .leaf)) none (.node (.node (.node .leaf none
    (.node .leaf none (.node (.node .leaf none (.node .leaf none (.node (.node .leaf none (.node .leaf (some (.cells (.node (.node (.node (.node (.node .leaf (some (.str 4
    1684369017)) .leaf) (some (.slice (Pos.of 12152) 0 1 none 3)) (.node .leaf (some .nilslice) .leaf)) (some (.str 5 444301538672)) (.node (.node .leaf (some (.slice (Pos.of 13584)
    0 1 none 3)) .leaf) (some .nilslice) .leaf)) (some (.slice (Pos.of 11436) 0 1 none 3)) (.node (.node (.node .leaf (some .nilslice) .leaf) (some (.str 8 8243121615520555877))
    .leaf) (some .nilslice) (.node (.node .leaf (some (.str 4 1718773093)) .leaf) (some (.slice (Pos.of 12868) 0 1 none 3)) .leaf))) (some (.str 4 1970496882)) (.node (.node (.node
    (.node .leaf (some (.slice (Pos.of 13226) 0 1 none 3)) .leaf) (some .nilslice) .leaf) (some (.slice (Pos.of 11794) 0 1 none 3)) (.node (.node .leaf (some .nilslice) .leaf) (some
    (.str 5 418430873463)) .leaf)) (some .nilslice) (.node (.node (.node .leaf (some (.str 5 422776761956)) .leaf) (some (.slice (Pos.of 12510) 0 1 none 3)) .leaf) (some (.str 6
    107079782723438)) (.node (.node .leaf (some (.slice (Pos.of 13942) 0 1 none 3)) .leaf) (some .nilslice) .leaf)))) 24 (some (Pos.of 13665)))) .leaf)) none .leaf))) none .leaf)))
    none (.node (.node (.node (.node .leaf none (.node .leaf none (.node .leaf none (.node .leaf none (.node .leaf (some (.cells (.node (.node .leaf (some (.str 0 0)) .leaf) (some
    (.str 5 452572766580)) (.node .leaf (some (.str 0 0)) .leaf)) 3 none)) .leaf))))) none .leaf) none .leaf) none .leaf)) none (.node (.node (.node .leaf none (.node (.node .leaf
    none (.node (.node .leaf none (.node (.node .leaf (some (.cells (.node (.node .leaf (some (.str 0 0)) .leaf) (some (.str 6 115858713306482)) (.node .leaf (some (.str 0 0))
    .leaf)) 3 none)) .leaf) none .leaf)) none .leaf)) none .leaf)) none .leaf) none (.node .leaf none (.node .leaf none (.node .leaf none (.node (.node .leaf (some (.cells (.node
    (.node .leaf (some (.str 0 0)) .leaf) (some (.str 6 115858713306482)) (.node .leaf (some (.str 0 0)) .leaf)) 3 none)) .leaf) none (.node (.node (.node .leaf (some (.cells (.node
    (.node .leaf (some (.str 0 0)) .leaf) (some (.str 5 452572766580)) (.node .leaf (some (.str 0 0)) .leaf)) 3 none)) .leaf) none .leaf) none .leaf)))))))) none (.node (.node (.node
    (.node .leaf none (.node (.node (.node .leaf none (.node .leaf none (.node .leaf none (.node (.node (.node .leaf (some (.cells (.node (.node (.node (.node (.node .leaf (some
    (.slice (Pos.of 16350) 0 2 none 3)) .leaf) (some .nilslice) .leaf) (some .nilslice) (.node .leaf (some (.slice (Pos.of 14023) 0 8 none 3)) .leaf)) (some .nilslice) (.node (.node
    (.node .leaf (some (.slice (Pos.of 19953) 0 5 none 3)) .leaf) (some (.slice (Pos.of 10984) 0 1 none 3)) .leaf) (some .nilslice) (.node .leaf (some (.slice (Pos.of 15459) 0 3 none
    3)) .leaf))) (some (.str 6 115858713306482)) (.node (.node (.node (.node .leaf (some (.str 5 452572898673)) .leaf) (some (.str 7 29659770460796272)) .leaf) (some (.str 10
    497609164509930675397477)) (.node .leaf (some (.str 6 115858679819636)) .leaf)) (some (.str 8 7592894576552669038)) (.node (.node .leaf (some (.str 8 7592915475762343540)) .leaf)
    (some (.str 5 452572766580)) (.node .leaf (some (.str 7 29659748936019556)) .leaf)))) 18 (some (Pos.of 16432)))) .leaf) none .leaf) none .leaf)))) none (.node (.node .leaf none
    (.node .leaf none (.node (.node (.node .leaf (some (.cells (.node (.node (.node (.node (.node .leaf (some (.int .i64 (.ofNat 2))) .leaf) (some (.str 4 1718773093)) .leaf) (some
    (.int .i64 (.ofNat 1))) (.node .leaf (some (.str 0 0)) .leaf)) (some (.str 5 418430873463)) (.node (.node (.node .leaf (some (.str 3 7825519)) .leaf) (some (.int .i64 (.ofNat
    3))) .leaf) (some (.str 0 0)) (.node .leaf (some (.str 0 0)) .leaf))) (some (.int .i64 (.ofNat 2))) (.node (.node (.node (.node .leaf (some (.str 4 1684369017)) .leaf) (some
    (.str 0 0)) .leaf) (some (.str 6 131294808271214)) (.node .leaf (some (.int .i64 (.ofNat 5))) .leaf)) (some (.str 3 7825519)) (.node (.node .leaf (some (.str 0 0)) .leaf) (some
    (.int .i64 (.ofNat 1))) (.node .leaf (some (.str 0 0)) .leaf)))) 18 (some (Pos.of 19832)))) .leaf) none .leaf) none .leaf))) none .leaf)) none (.node (.node (.node (.node .leaf
    (some (.cells (.node (.node .leaf (some (.str 0 0)) .leaf) (some (.str 8 7592894576552669038)) (.node .leaf (some (.str 0 0)) .leaf)) 3 none)) .leaf) none .leaf) none .leaf) none
    (.node .leaf none (.node .leaf none (.node (.node .leaf (some (.cells (.node (.node .leaf (some (.slice (Pos.of 6002) 0 1 none 3)) .leaf) (some (.str 3 6382452)) (.node .leaf
    (some .nilslice) .leaf)) 3 (some (Pos.of 6441)))) .leaf) none .leaf)))))) none (.node .leaf none (.node (.node (.node (.node .leaf none (.node .leaf none (.node .leaf none (.node
    .leaf (some (.cells (.node (.node (.node (.node .leaf (some (.slice (Pos.of 15378) 0 1 none 3)) .leaf) (some (.str 3 6382452)) .leaf) (some (.slice (Pos.of 14662) 0 2 none 3))
    (.node .leaf (some .nilslice) .leaf)) (some (.str 3 7825519)) (.node (.node (.node .leaf (some .nilslice) .leaf) (some (.slice (Pos.of 15020) 0 1 none 3)) .leaf) (some .nilslice)
    (.node .leaf (some (.str 3 7497075)) .leaf))) 9 (some (Pos.of 15101)))) .leaf)))) none .leaf) none .leaf) none .leaf))) none (.node (.node .leaf none (.node (.node (.node (.node
    .leaf none (.node .leaf none (.node .leaf (some (.cells (.node (.node .leaf (some (.str 0 0)) .leaf) (some (.str 6 115858679819636)) (.node .leaf (some (.str 0 0)) .leaf)) 3
    none)) .leaf))) none .leaf) none (.node .leaf none (.node .leaf none (.node .leaf none (.node .leaf (some (.cells (.node (.node .leaf (some (.str 0 0)) .leaf) (some (.str 8
    7592915475762343540)) (.node .leaf (some (.str 4 1718773093)) .leaf)) 3 none)) .leaf))))) none .leaf)) none (.node (.node (.node (.node (.node .leaf (some (.cells (.node (.node
    .leaf (some (.slice (Pos.of 994) 0 1 none 3)) .leaf) (some (.str 6 120282394289522)) (.node .leaf (some .nilslice) .leaf)) 3 none)) .leaf) none .leaf) none .leaf) none .leaf)
    none .leaf))) none (.node (.node (.node (.node .leaf none (.node (.node (.node (.node .leaf none (.node .leaf none (.node .leaf (some (.cells (.node (.node .leaf (some (.str 0
    0)) .leaf) (some (.str 6 115858713306482)) (.node .leaf (some (.str 0 0)) .leaf)) 3 (some (Pos.of 14662)))) .leaf))) none .leaf) none .leaf) none .leaf)) none .leaf) none .leaf)
    none (.node (.node .leaf none (.node (.node (.node .leaf none (.node .leaf none (.node .leaf (some (.cells (.node (.node .leaf (some (.str 0 0)) .leaf) (some (.str 7
    29659748936019556)) (.node .leaf (some (.str 0 0)) .leaf)) 3 none)) .leaf))) none .leaf) none .leaf)) none (.node .leaf none (.node (.node .leaf none (.node (.node (.node .leaf
    none (.node .leaf (some (.cells (.node (.node (.node (.node (.node .leaf (some (.slice (Pos.of 6441) 0 2 none 3)) .leaf) (some .nilslice) .leaf) (some .nilslice) (.node .leaf
    (some (.slice (Pos.of 4114) 0 8 none 3)) .leaf)) (some .nilslice) (.node (.node .leaf (some (.slice (Pos.of 1075) 0 1 none 3)) .leaf) (some .nilslice) (.node .leaf (some (.slice
    (Pos.of 5550) 0 3 none 3)) .leaf))) (some (.str 6 115858713306482)) (.node (.node (.node .leaf (some (.str 7 29659770460796272)) .leaf) (some (.str 10 497609164509930675397477))
    (.node .leaf (some (.str 6 115858679819636)) .leaf)) (some (.str 8 7592894576552669038)) (.node (.node .leaf (some (.str 8 7592915475762343540)) .leaf) (some (.str 5
    452572766580)) (.node .leaf (some (.str 7 29659748936019556)) .leaf)))) 16 (some (Pos.of 9904)))) .leaf)) none .leaf) none .leaf)) none .leaf)))))) none (.node (.node (.node
    (.node (.node .leaf none (.node .leaf none (.node .leaf none (.node .leaf none (.node .leaf none (.node .leaf (some (.cells (.node (.node .leaf (some (.str 0 0)) .leaf) (some
    (.str 6 115858713306482)) (.node .leaf (some (.str 0 0)) .leaf)) 3 none)) .leaf)))))) none (.node .leaf none (.node (.node .leaf none (.node (.node .leaf none (.node (.node .leaf
    none (.node .leaf (some (.cells (.node (.node (.node (.node (.node .leaf (some (.str 4 1684369017)) .leaf) (some (.slice (Pos.of 12152) 0 1 none 3)) .leaf) (some (.str 5
    444301538672)) (.node (.node .leaf (some (.slice (Pos.of 13584) 0 1 none 3)) .leaf) (some .nilslice) .leaf)) (some (.slice (Pos.of 11436) 0 1 none 3)) (.node (.node (.node .leaf
    (some .nilslice) .leaf) (some (.str 8 8243121615520555877)) .leaf) (some .nilslice) (.node .leaf (some (.slice (Pos.of 12868) 0 1 none 3)) .leaf))) (some (.str 4 1970496882))
    (.node (.node (.node (.node .leaf (some (.slice (Pos.of 13226) 0 1 none 3)) .leaf) (some .nilslice) .leaf) (some (.slice (Pos.of 11794) 0 1 none 3)) (.node (.node .leaf (some
    .nilslice) .leaf) (some (.str 5 418430873463)) .leaf)) (some .nilslice) (.node (.node (.node .leaf (some (.str 5 422776761956)) .leaf) (some (.slice (Pos.of 12510) 0 1 none 3))
    .leaf) (some (.str 6 107079782723438)) (.node .leaf (some .nilslice) .leaf)))) 21 (some (Pos.of 14023)))) .leaf)) none .leaf)) none .leaf)) none .leaf))) none (.node (.node
    (.node .leaf none (.node (.node .leaf none (.node (.node (.node .leaf (some (.cells (.node (.node (.node .leaf (some (.str 7 29659770460796272)) .leaf) (some (.str 0 0)) (.node
    .leaf (some (.str 6 120282394289522)) .leaf)) (some (.str 6 115858713306482)) (.node (.node .leaf (some (.str 0 0)) .leaf) (some (.str 0 0)) .leaf)) 6 (some (Pos.of 4566))))
    .leaf) none .leaf) none .leaf)) none .leaf)) none .leaf) none (.node .leaf none (.node .leaf none (.node .leaf none (.node (.node .leaf none (.node .leaf none (.node (.node
    (.node .leaf (some (.cells (.node (.node (.node (.node .leaf (some (.slice (Pos.of 17518) 0 1 none 3)) .leaf) (some (.str 4 1684369017)) (.node .leaf (some .nilslice) .leaf))
    (some (.slice (Pos.of 16802) 0 1 none 3)) (.node (.node .leaf (some (.str 4 1718773093)) .leaf) (some .nilslice) (.node .leaf (some .nilslice) .leaf))) (some (.str 5
    418430873463)) (.node (.node (.node .leaf (some .nilslice) .leaf) (some (.slice (Pos.of 17160) 0 1 none 3)) (.node .leaf (some (.str 3 6513006)) .leaf)) (some .nilslice) (.node
    (.node .leaf (some (.slice (Pos.of 17928) 0 1 none 3)) .leaf) (some (.str 6 131294808271214)) (.node .leaf (some (.slice (Pos.of 19832) 0 7 none 3)) .leaf)))) 15 (some (Pos.of
    18009)))) .leaf) none .leaf) none .leaf))) none .leaf)))))) none (.node (.node .leaf none (.node (.node (.node (.node .leaf none (.node (.node .leaf (some (.cells (.node (.node
    .leaf (some (.str 0 0)) .leaf) (some (.str 10 497609164509930675397477)) (.node .leaf (some (.str 0 0)) .leaf)) 3 none)) .leaf) none .leaf)) none (.node (.node (.node .leaf none
    (.node .leaf (some (.cells (.node (.node (.node .leaf (some (.str 3 7497075)) .leaf) (some (.slice (Pos.of 6002) 0 1 none 3)) (.node .leaf (some .nilslice) .leaf)) (some (.str 3
    6382452)) (.node (.node .leaf (some (.slice (Pos.of 6360) 0 1 none 3)) .leaf) (some .nilslice) .leaf)) 6 (some (Pos.of 6083)))) .leaf)) none .leaf) none .leaf)) none .leaf) none
    .leaf)) none (.node (.node .leaf none (.node (.node (.node .leaf none (.node .leaf none (.node (.node (.node (.node .leaf (some (.cells (.node (.node (.node (.node .leaf (some
    (.slice (Pos.of 17518) 0 1 none 3)) .leaf) (some (.str 4 1684369017)) (.node .leaf (some .nilslice) .leaf)) (some (.slice (Pos.of 16802) 0 1 none 3)) (.node (.node .leaf (some
    (.str 4 1718773093)) .leaf) (some .nilslice) .leaf)) (some (.str 5 418430873463)) (.node (.node (.node .leaf (some .nilslice) .leaf) (some (.slice (Pos.of 17160) 0 1 none 3))
    .leaf) (some .nilslice) (.node (.node .leaf (some (.slice (Pos.of 17928) 0 1 none 3)) .leaf) (some (.str 6 131294808271214)) .leaf))) 12 (some (Pos.of 19953)))) .leaf) none
    .leaf) none .leaf) none .leaf))) none .leaf) none .leaf)) none (.node (.node .leaf none (.node .leaf none (.node (.node .leaf none (.node .leaf none (.node .leaf (some (.cells
    (.node (.node .leaf (some (.str 0 0)) .leaf) (some (.str 6 115858713306482)) (.node .leaf (some (.str 0 0)) .leaf)) 3 none)) .leaf))) none .leaf))) none .leaf)))) none (.node
    (.node (.node .leaf none (.node .leaf none (.node .leaf none (.node .leaf none (.node (.node .leaf none (.node (.node (.node .leaf (some (.cells (.node (.node (.node (.node
    (.node .leaf (some (.int .i64 (.ofNat 2))) .leaf) (some (.str 4 1718773093)) .leaf) (some (.int .i64 (.ofNat 1))) (.node (.node .leaf (some (.str 0 0)) .leaf) (some (.str 0 0))
    .leaf)) (some (.str 5 418430873463)) (.node (.node (.node .leaf (some (.str 3 7825519)) .leaf) (some (.int .i64 (.ofNat 3))) .leaf) (some (.str 0 0)) (.node .leaf (some (.str 0
    0)) .leaf))) (some (.int .i64 (.ofNat 2))) (.node (.node (.node (.node .leaf (some (.str 4 1684369017)) .leaf) (some (.str 0 0)) .leaf) (some (.str 6 131294808271214)) (.node
    (.node .leaf (some (.str 0 0)) .leaf) (some (.int .i64 (.ofNat 5))) .leaf)) (some (.str 3 7825519)) (.node (.node (.node .leaf (some (.int .i64 (.ofNat 4))) .leaf) (some (.str 0
    0)) .leaf) (some (.int .i64 (.ofNat 1))) (.node .leaf (some (.str 0 0)) .leaf)))) 21 (some (Pos.of 9648)))) .leaf) none .leaf) none .leaf)) none .leaf))))) none (.node .leaf none
    (.node .leaf none (.node .leaf none (.node (.node (.node .leaf none (.node .leaf (some (.cells (.node (.node .leaf (some (.str 0 0)) .leaf) (some (.str 6 115858679819636)) (.node
    .leaf (some (.str 0 0)) .leaf)) 3 none)) .leaf)) none .leaf) none .leaf))))) none (.node (.node (.node (.node .leaf none (.node .leaf none (.node .leaf none (.node .leaf none
    (.node .leaf none (.node .leaf none (.node .leaf (some (.cells (.node (.node .leaf (some (.str 0 0)) .leaf) (some (.str 5 452572766580)) (.node .leaf (some (.str 0 0)) .leaf)) 3
    none)) .leaf))))))) none .leaf) none (.node .leaf none (.node .leaf none (.node (.node .leaf none (.node (.node .leaf none (.node .leaf (some (.cells (.node (.node .leaf (some
    (.str 0 0)) .leaf) (some (.str 6 115858679819636)) (.node .leaf (some (.str 0 0)) .leaf)) 3 none)) .leaf)) none .leaf)) none .leaf)))) none (.node (.node .leaf none (.node (.node
    .leaf none (.node (.node .leaf none (.node (.node .leaf (some (.cells (.node (.node .leaf (some (.str 0 0)) .leaf) (some (.str 5 452572766580)) (.node .leaf (some (.str 0 0))
    .leaf)) 3 none)) .leaf) none .leaf)) none (.node .leaf (some (.cells (.node (.node .leaf (some (.str 0 0)) .leaf) (some (.str 7 29659770460796272)) (.node .leaf (some (.str 0 0))
    .leaf)) 3 none)) .leaf))) none .leaf)) none (.node .leaf none (.node .leaf none (.node (.node .leaf none (.node (.node .leaf none (.node .leaf none (.node .leaf (some (.cells
    (.node (.node (.node .leaf (some (.str 3 6382452)) .leaf) (some (.slice (Pos.of 14662) 0 2 none 3)) (.node .leaf (some .nilslice) .leaf)) (some (.str 3 7825519)) (.node (.node
    .leaf (some (.slice (Pos.of 15020) 0 1 none 3)) .leaf) (some .nilslice) .leaf)) 6 (some (Pos.of 15459)))) .leaf))) none .leaf)) none .leaf)))))))) none (.node (.node (.node
    (.node .leaf none (.node (.node (.node (.node .leaf none (.node (.node .leaf none (.node (.node .leaf none (.node .leaf (some (.cells (.node (.node .leaf (some (.str 0 0)) .leaf)
    (some (.str 7 29659748936019556)) (.node .leaf (some (.str 0 0)) .leaf)) 3 none)) .leaf)) none .leaf)) none .leaf)) none .leaf) none .leaf) none (.node (.node (.node (.node
    (.node (.node (.node (.node (.node .leaf (some (.cells (.node (.node (.node (.node (.node .leaf (some (.slice (Pos.of 16350) 0 2 none 3)) .leaf) (some .nilslice) .leaf) (some
    .nilslice) (.node .leaf (some (.slice (Pos.of 14023) 0 8 none 3)) .leaf)) (some .nilslice) (.node (.node .leaf (some (.slice (Pos.of 10984) 0 1 none 3)) .leaf) (some .nilslice)
    (.node .leaf (some (.slice (Pos.of 15459) 0 3 none 3)) .leaf))) (some (.str 6 115858713306482)) (.node (.node (.node .leaf (some (.str 7 29659770460796272)) .leaf) (some (.str 10
    497609164509930675397477)) (.node .leaf (some (.str 6 115858679819636)) .leaf)) (some (.str 8 7592894576552669038)) (.node (.node .leaf (some (.str 8 7592915475762343540)) .leaf)
    (some (.str 5 452572766580)) (.node .leaf (some (.str 7 29659748936019556)) .leaf)))) 16 (some (Pos.of 20035)))) .leaf) none .leaf) none .leaf) none .leaf) none .leaf) none
    .leaf) none .leaf) none (.node (.node .leaf none (.node .leaf none (.node (.node (.node .leaf (some (.cells (.node (.node (.node (.node (.node .leaf (some (.slice (Pos.of 6441) 0
    2 none 3)) .leaf) (some .nilslice) .leaf) (some .nilslice) (.node .leaf (some (.slice (Pos.of 4114) 0 8 none 3)) .leaf)) (some .nilslice) (.node (.node (.node .leaf (some (.slice
    (Pos.of 9822) 0 5 none 3)) .leaf) (some (.slice (Pos.of 1075) 0 1 none 3)) .leaf) (some .nilslice) (.node .leaf (some (.slice (Pos.of 5550) 0 3 none 3)) .leaf))) (some (.str 6
    115858713306482)) (.node (.node (.node (.node .leaf (some (.str 5 452572898673)) .leaf) (some (.str 7 29659770460796272)) .leaf) (some (.str 10 497609164509930675397477)) (.node
    .leaf (some (.str 6 115858679819636)) .leaf)) (some (.str 8 7592894576552669038)) (.node (.node .leaf (some (.str 8 7592915475762343540)) .leaf) (some (.str 5 452572766580))
    (.node .leaf (some (.str 7 29659748936019556)) .leaf)))) 18 (some (Pos.of 6523)))) .leaf) none .leaf) none .leaf))) none (.node (.node .leaf none (.node (.node (.node .leaf (some
    (.cells (.node (.node (.node (.node (.node .leaf (some (.int .i64 (.ofNat 2))) .leaf) (some (.str 4 1718773093)) .leaf) (some (.int .i64 (.ofNat 1))) (.node .leaf (some (.str 0
    0)) .leaf)) (some (.str 5 418430873463)) (.node (.node (.node .leaf (some (.str 3 7825519)) .leaf) (some (.int .i64 (.ofNat 3))) .leaf) (some (.str 0 0)) (.node .leaf (some (.str
    0 0)) .leaf))) (some (.int .i64 (.ofNat 2))) (.node (.node (.node (.node .leaf (some (.str 4 1684369017)) .leaf) (some (.str 0 0)) .leaf) (some (.str 6 131294808271214)) (.node
    .leaf (some (.int .i64 (.ofNat 5))) .leaf)) (some (.str 3 7825519)) (.node (.node .leaf (some (.str 0 0)) .leaf) (some (.int .i64 (.ofNat 1))) (.node .leaf (some (.str 0 0))
    .leaf)))) 18 (some (Pos.of 9701)))) .leaf) none .leaf) none .leaf)) none .leaf))) none .leaf))) none (.node (.node (.node (.node (.node (.node .leaf none (.node .leaf none (.node
    (.node (.node (.node .leaf (some (.cells (.node (.node .leaf (some (.str 0 0)) .leaf) (some (.str 8 7592915475762343540)) (.node .leaf (some (.str 4 1718773093)) .leaf)) 3 none))
    .leaf) none .leaf) none .leaf) none .leaf))) none (.node .leaf none (.node (.node (.node (.node (.node .leaf (some (.cells (.node (.node .leaf (some (.str 0 0)) .leaf) (some
    (.str 6 115858679819636)) (.node .leaf (some (.str 0 0)) .leaf)) 3 none)) .leaf) none .leaf) none .leaf) none .leaf) none .leaf))) none .leaf) none (.node (.node (.node (.node
    .leaf none (.node (.node .leaf (some (.cells (.node (.node (.node .leaf (some (.str 3 6382452)) .leaf) (some (.slice (Pos.of 4753) 0 2 none 3)) (.node .leaf (some .nilslice)
    .leaf)) (some (.str 3 7825519)) (.node (.node .leaf (some (.slice (Pos.of 5111) 0 1 none 3)) .leaf) (some .nilslice) .leaf)) 6 (some (Pos.of 5550)))) .leaf) none .leaf)) none
    .leaf) none .leaf) none .leaf)) none (.node .leaf none (.node .leaf none (.node (.node .leaf none (.node (.node .leaf none (.node (.node .leaf (some (.cells (.node (.node .leaf
    (some (.slice (Pos.of 10903) 0 1 none 3)) .leaf) (some (.str 6 120282394289522)) (.node .leaf (some .nilslice) .leaf)) 3 none)) .leaf) none .leaf)) none .leaf)) none .leaf))))
    none (.node (.node .leaf none (.node .leaf none (.node (.node (.node (.node .leaf none (.node .leaf (some (.cells (.node (.node .leaf (some (.str 0 0)) .leaf) (some (.str 5
    452572766580)) (.node .leaf (some (.str 0 0)) .leaf)) 3 none)) .leaf)) none .leaf) none .leaf) none .leaf))) none (.node .leaf none (.node (.node (.node .leaf none (.node .leaf
    none (.node .leaf none (.node .leaf none (.node .leaf (some (.cells (.node (.node .leaf (some (.slice (Pos.of 15911) 0 1 none 3)) .leaf) (some (.str 3 6382452)) (.node .leaf
    (some .nilslice) .leaf)) 3 (some (Pos.of 16350)))) .leaf))))) none (.node (.node .leaf none (.node .leaf none (.node (.node (.node .leaf (some (.cells (.node (.node (.node (.node
    (.node .leaf (some (.int .i64 (.ofNat 2))) .leaf) (some (.str 4 1718773093)) .leaf) (some (.int .i64 (.ofNat 1))) (.node (.node .leaf (some (.str 0 0)) .leaf) (some (.str 0 0))
    .leaf)) (some (.str 5 418430873463)) (.node (.node (.node .leaf (some (.str 3 7825519)) .leaf) (some (.int .i64 (.ofNat 3))) .leaf) (some (.str 0 0)) (.node .leaf (some (.str 0
    0)) .leaf))) (some (.int .i64 (.ofNat 2))) (.node (.node (.node (.node .leaf (some (.str 4 1684369017)) .leaf) (some (.str 0 0)) .leaf) (some (.str 6 131294808271214)) (.node
    (.node .leaf (some (.str 0 0)) .leaf) (some (.int .i64 (.ofNat 5))) .leaf)) (some (.str 3 7825519)) (.node (.node (.node .leaf (some (.int .i64 (.ofNat 4))) .leaf) (some (.str 0
    0)) .leaf) (some (.int .i64 (.ofNat 1))) (.node .leaf (some (.str 0 0)) .leaf)))) 21 (some (Pos.of 19779)))) .leaf) none .leaf) none .leaf))) none (.node .leaf none (.node .leaf
    none (.node (.node .leaf (some (.cells (.node (.node .leaf (some (.str 0 0)) .leaf) (some (.str 8 7592894576552669038)) (.node .leaf (some (.str 0 0)) .leaf)) 3 none)) .leaf)
    none .leaf))))) none .leaf))))) none (.node (.node (.node (.node .leaf none (.node (.node (.node .leaf none (.node (.node (.node .leaf none (.node .leaf (some (.cells (.node
    (.node .leaf (some (.str 0 0)) .leaf) (some (.str 6 115858679819636)) (.node .leaf (some (.str 0 0)) .leaf)) 3 none)) .leaf)) none .leaf) none .leaf)) none .leaf) none .leaf))
    none (.node (.node .leaf none (.node .leaf none (.node .leaf none (.node .leaf none (.node .leaf none (.node .leaf (some (.cells (.node (.node (.node (.node .leaf (some (.slice
    (Pos.of 7609) 0 1 none 3)) .leaf) (some (.str 4 1684369017)) (.node .leaf (some .nilslice) .leaf)) (some (.slice (Pos.of 6893) 0 1 none 3)) (.node (.node .leaf (some (.str 4
    1718773093)) .leaf) (some .nilslice) .leaf)) (some (.str 5 418430873463)) (.node (.node (.node .leaf (some .nilslice) .leaf) (some (.slice (Pos.of 7251) 0 1 none 3)) .leaf) (some
    .nilslice) (.node (.node .leaf (some (.slice (Pos.of 8019) 0 1 none 3)) .leaf) (some (.str 6 131294808271214)) .leaf))) 12 (some (Pos.of 9822)))) .leaf)))))) none .leaf)) none
    .leaf) none (.node (.node .leaf none (.node (.node .leaf none (.node (.node (.node .leaf none (.node .leaf none (.node (.node .leaf (some (.cells (.node (.node .leaf (some (.str
    0 0)) .leaf) (some (.str 6 115858713306482)) (.node .leaf (some (.str 0 0)) .leaf)) 3 none)) .leaf) none .leaf))) none (.node (.node .leaf none (.node .leaf none (.node .leaf
    (some (.cells (.node (.node .leaf (some (.str 0 0)) .leaf) (some (.str 5 452572766580)) (.node .leaf (some (.str 0 0)) .leaf)) 3 none)) .leaf))) none (.node .leaf (some (.cells
    (.node (.node (.node (.node (.node .leaf (some (.str 4 1684369017)) .leaf) (some (.slice (Pos.of 2243) 0 1 none 3)) .leaf) (some (.str 5 444301538672)) (.node (.node .leaf (some
    (.slice (Pos.of 3675) 0 1 none 3)) .leaf) (some .nilslice) .leaf)) (some (.slice (Pos.of 1527) 0 1 none 3)) (.node (.node (.node .leaf (some .nilslice) .leaf) (some (.str 8
    8243121615520555877)) .leaf) (some .nilslice) (.node .leaf (some (.slice (Pos.of 2959) 0 1 none 3)) .leaf))) (some (.str 4 1970496882)) (.node (.node (.node (.node .leaf (some
    (.slice (Pos.of 3317) 0 1 none 3)) .leaf) (some .nilslice) .leaf) (some (.slice (Pos.of 1885) 0 1 none 3)) (.node (.node .leaf (some .nilslice) .leaf) (some (.str 5
    418430873463)) .leaf)) (some .nilslice) (.node (.node (.node .leaf (some (.str 5 422776761956)) .leaf) (some (.slice (Pos.of 2601) 0 1 none 3)) .leaf) (some (.str 6
    107079782723438)) (.node .leaf (some .nilslice) .leaf)))) 21 (some (Pos.of 4114)))) .leaf))) none .leaf)) none .leaf)) none .leaf))) none (.node (.node (.node (.node .leaf none
    (.node (.node .leaf none (.node .leaf none (.node (.node (.node (.node (.node (.node .leaf (some (.cells (.node (.node .leaf (some (.str 0 0)) .leaf) (some (.str 6
    115858679819636)) (.node .leaf (some (.str 0 0)) .leaf)) 3 none)) .leaf) none .leaf) none .leaf) none .leaf) none .leaf) none .leaf))) none (.node .leaf none (.node .leaf none
    (.node .leaf (some (.cells (.node (.node .leaf (some (.str 0 0)) .leaf) (some (.str 6 115858713306482)) (.node .leaf (some (.str 0 0)) .leaf)) 3 none)) .leaf))))) none (.node
    (.node (.node (.node (.node (.node (.node (.node .leaf (some (.cells (.node (.node (.node (.node (.node .leaf (some (.str 4 1684369017)) .leaf) (some (.slice (Pos.of 2243) 0 1
    none 3)) (.node .leaf (some .nilslice) .leaf)) (some (.str 5 444301538672)) (.node (.node .leaf (some (.slice (Pos.of 3675) 0 1 none 3)) .leaf) (some .nilslice) .leaf)) (some
    (.slice (Pos.of 1527) 0 1 none 3)) (.node (.node (.node .leaf (some .nilslice) .leaf) (some (.str 8 8243121615520555877)) .leaf) (some .nilslice) (.node (.node .leaf (some (.str
    4 1718773093)) .leaf) (some (.slice (Pos.of 2959) 0 1 none 3)) .leaf))) (some (.str 4 1970496882)) (.node (.node (.node (.node .leaf (some (.slice (Pos.of 3317) 0 1 none 3))
    .leaf) (some .nilslice) .leaf) (some (.slice (Pos.of 1885) 0 1 none 3)) (.node (.node .leaf (some .nilslice) .leaf) (some (.str 5 418430873463)) .leaf)) (some .nilslice) (.node
    (.node (.node .leaf (some (.str 5 422776761956)) .leaf) (some (.slice (Pos.of 2601) 0 1 none 3)) .leaf) (some (.str 6 107079782723438)) (.node (.node .leaf (some (.slice (Pos.of
    4033) 0 1 none 3)) .leaf) (some .nilslice) .leaf)))) 24 (some (Pos.of 3756)))) .leaf) none .leaf) none (.node .leaf none (.node .leaf none (.node .leaf (some (.cells (.node
    (.node .leaf (some (.str 0 0)) .leaf) (some (.str 5 452572766580)) (.node .leaf (some (.str 0 0)) .leaf)) 3 none)) .leaf)))) none (.node .leaf none (.node .leaf none (.node
    (.node .leaf (some (.cells (.node (.node .leaf (some (.str 0 0)) .leaf) (some (.str 7 29659770460796272)) (.node .leaf (some (.str 0 0)) .leaf)) 3 none)) .leaf) none .leaf))))
    none .leaf) none .leaf) none .leaf) none (.node .leaf none (.node (.node .leaf none (.node .leaf none (.node .leaf none (.node (.node .leaf (some (.cells (.node (.node .leaf
    (some (.str 0 0)) .leaf) (some (.str 5 452572766580)) (.node .leaf (some (.str 0 0)) .leaf)) 3 none)) .leaf) none .leaf)))) none .leaf)))) none (.node (.node .leaf none (.node
    (.node .leaf none (.node .leaf none (.node .leaf none (.node (.node (.node .leaf none (.node .leaf (some (.cells (.node (.node .leaf (some (.str 0 0)) .leaf) (some (.str 6
    115858679819636)) (.node .leaf (some (.str 0 0)) .leaf)) 3 none)) .leaf)) none .leaf) none .leaf)))) none .leaf)) none .leaf)) none (.node (.node (.node (.node .leaf none (.node
    (.node .leaf none (.node (.node (.node .leaf none (.node .leaf none (.node .leaf (some (.cells (.node (.node (.node .leaf (some (.str 7 29659770460796272)) .leaf) (some (.str 0
    0)) (.node .leaf (some (.str 6 120282394289522)) .leaf)) (some (.str 6 115858713306482)) (.node (.node .leaf (some (.str 0 0)) .leaf) (some (.str 0 0)) .leaf)) 6 (some (Pos.of
    14475)))) .leaf))) none .leaf) none .leaf)) none .leaf)) none .leaf) none (.node (.node .leaf none (.node .leaf none (.node .leaf none (.node (.node (.node (.node .leaf (some
    (.cells (.node (.node .leaf (some (.str 0 0)) .leaf) (some (.str 6 115858713306482)) (.node .leaf (some (.str 0 0)) .leaf)) 3 (some (Pos.of 4753)))) .leaf) none .leaf) none
    .leaf) none .leaf)))) none (.node .leaf none (.node (.node (.node .leaf none (.node .leaf none (.node (.node .leaf none (.node .leaf (some (.cells (.node (.node .leaf (some (.str
    0 0)) .leaf) (some (.str 6 115858713306482)) (.node .leaf (some (.str 0 0)) .leaf)) 3 none)) .leaf)) none .leaf))) none .leaf) none .leaf)))) none (.node (.node .leaf none (.node
    (.node .leaf none (.node .leaf none (.node (.node .leaf none (.node (.node .leaf (some (.cells (.node (.node (.node (.node .leaf (some (.slice (Pos.of 5469) 0 1 none 3)) .leaf)
    (some (.str 3 6382452)) .leaf) (some (.slice (Pos.of 4753) 0 2 none 3)) (.node .leaf (some .nilslice) .leaf)) (some (.str 3 7825519)) (.node (.node (.node .leaf (some .nilslice)
    .leaf) (some (.slice (Pos.of 5111) 0 1 none 3)) .leaf) (some .nilslice) (.node .leaf (some (.str 3 7497075)) .leaf))) 9 (some (Pos.of 5192)))) .leaf) none .leaf)) none .leaf)))
    none (.node (.node (.node (.node .leaf none (.node (.node (.node (.node .leaf (some (.cells (.node (.node .leaf (some (.str 0 0)) .leaf) (some (.str 6 115858713306482)) (.node
    .leaf (some (.str 0 0)) .leaf)) 3 none)) .leaf) none .leaf) none .leaf) none .leaf)) none .leaf) none .leaf) none .leaf))) none (.node (.node .leaf none (.node (.node (.node
    .leaf none (.node .leaf none (.node (.node (.node .leaf (some (.cells (.node (.node (.node (.node .leaf (some (.slice (Pos.of 7609) 0 1 none 3)) .leaf) (some (.str 4 1684369017))
    (.node .leaf (some .nilslice) .leaf)) (some (.slice (Pos.of 6893) 0 1 none 3)) (.node (.node .leaf (some (.str 4 1718773093)) .leaf) (some .nilslice) (.node .leaf (some
    .nilslice) .leaf))) (some (.str 5 418430873463)) (.node (.node (.node .leaf (some .nilslice) .leaf) (some (.slice (Pos.of 7251) 0 1 none 3)) (.node .leaf (some (.str 3 6513006))
    .leaf)) (some .nilslice) (.node (.node .leaf (some (.slice (Pos.of 8019) 0 1 none 3)) .leaf) (some (.str 6 131294808271214)) (.node .leaf (some (.slice (Pos.of 9701) 0 7 none 3))
    .leaf)))) 15 (some (Pos.of 8100)))) .leaf) none .leaf) none .leaf))) none .leaf) none (.node (.node (.node (.node (.node .leaf none (.node .leaf (some (.cells (.node (.node .leaf
    (some (.str 0 0)) .leaf) (some (.str 10 497609164509930675397477)) (.node .leaf (some (.str 0 0)) .leaf)) 3 none)) .leaf)) none .leaf) none .leaf) none .leaf) none (.node .leaf
    none (.node .leaf none (.node .leaf none (.node .leaf none (.node .leaf (some (.cells (.node (.node (.node .leaf (some (.str 3 7497075)) .leaf) (some (.slice (Pos.of 15911) 0 1
    none 3)) (.node .leaf (some .nilslice) .leaf)) (some (.str 3 6382452)) (.node (.node .leaf (some (.slice (Pos.of 16269) 0 1 none 3)) .leaf) (some .nilslice) .leaf)) 6 (some
    (Pos.of 15992)))) .leaf)))))))) none .leaf)))))), Pos.of 32869⟩⟩
noncomputable def LaKn102 : Kn := ⟨LaKn101.vals, LaM102 :: LaKn101.memo, LaKn101.prims⟩
theorem LaCame102 : came (callFn (progOf Tryz.prog LaKn101) (execQ (progOf Tryz.prog LaKn101) 1000000000) LaM102.f LaM102.args LaM102.s) LaM102.v LaM102.s' = true := by decide +kernel
theorem LaOk102 : KnownOk Tryz.prog LaKn102 := known_came LaOk101 mixed names LaM102 LaCame102
end Go.Proofs.YtpekifgpnbpnhaaGreat
